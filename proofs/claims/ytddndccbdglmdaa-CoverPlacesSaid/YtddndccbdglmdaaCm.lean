/- A part of the proofs of this seat's statements: lemmas and contracts, each with its own premises. -/
import Derived.Test.YtddndccbdglmdaaTB
namespace Go.SX
structure Ext (h h' : Heap) : Prop where
  size : h.size ≤ h'.size
  old : ∀ k, k < h.size → h'[k]? = h[k]?
theorem Ext.refl (h : Heap) : Ext h h := ⟨Nat.le_refl _, fun _ _ => rfl⟩
theorem Ext.trans {a b c : Heap} (h1 : Ext a b) (h2 : Ext b c) : Ext a c :=
  ⟨Nat.le_trans h1.size h2.size, fun k hk => (h2.old k (Nat.lt_of_lt_of_le hk h1.size)).trans (h1.old k hk)⟩
abbrev NoM : Nat → Prop := fun _ => False
theorem GoodH.ext {h0 : Heap} {M : Nat → Prop} {L : List (Nat × Obj)} {h h' : Heap} (gd : GoodH h0 M L h) (hx : Ext h h') : GoodH h0 M L h' :=
  ⟨Nat.le_trans gd.size hx.size, fun k hk hM => (hx.old k (Nat.lt_of_lt_of_le hk gd.size)).trans (gd.old k hk hM), gd.nd, fun p hp => (hx.old p.1 (gd.lt p hp)).trans (gd.own p hp), gd.new⟩
theorem GoodH.toExt {h0 : Heap} {L : List (Nat × Obj)} {h : Heap} (gd : GoodH h0 NoM L h) : Ext h0 h := ⟨gd.size, fun k hk => gd.old k hk id⟩
/-- from the middle on -/
theorem GoodH.base {h0 : Heap} {M : Nat → Prop} {L : List (Nat × Obj)} {h : Heap} (gd : GoodH h0 M L h) : GoodH h (fun k => ∃ p ∈ L, p.1 = k) L h :=
  ⟨Nat.le_refl _, fun _ _ _ => rfl, gd.nd, gd.own, fun p hp => .inr ⟨p, hp, rfl⟩⟩
theorem hcell_ext {h h' : Heap} {a : Addr} {v : Value} (hc : hcell h a = some v) (hx : Ext h h') : hcell h' a = some v :=
  (hcell_same (hx.old _ (hcell_lt hc))).trans hc

/-- A slice that can be read: its elements, each some cells. -/
def RdS {α : Type} (enc : α → List Value) (sz : Nat) (h : Heap) (v : Value) (xs : List α) : Prop :=
  ∃ a cap, v = .slice a xs.length cap ∧ xs.length ≤ cap ∧ (xs = [] ∨ ∃ b off, a = some ⟨b, off, none⟩ ∧ ∀ i x, xs[i]? = some x → ∀ j c, (enc x)[j]? = some c → hcell h ⟨b, off + i * sz + j, none⟩ = some c)
theorem RdS.ext {α : Type} {enc : α → List Value} {sz : Nat} {h h' : Heap} {v : Value} {xs : List α} (hr : RdS enc sz h v xs) (hx : Ext h h') : RdS enc sz h' v xs := by
  obtain ⟨a, cap, hv, hl, hr⟩ := hr
  refine ⟨a, cap, hv, hl, hr.imp id ?_⟩
  rintro ⟨b, off, ha, hc⟩
  exact ⟨b, off, ha, fun i x hi j c hj => hcell_ext (hc i x hi j c hj) hx⟩
theorem RdS.nil {α : Type} (enc : α → List Value) (sz : Nat) (h : Heap) : RdS enc sz h (.slice none 0 0) [] := ⟨none, 0, rfl, Nat.le_refl _, .inl rfl⟩
theorem flat_get {α : Type} {enc : α → List Value} {sz : Nat} (hs : ∀ x, (enc x).length = sz) (xs : List α) : ∀ (i j : Nat) (x : α) (c : Value), xs[i]? = some x → (enc x)[j]? = some c → (xs.flatMap enc)[i * sz + j]? = some c := by
  induction xs with
  | nil => intro i j x c h; simp at h
  | cons y ys ih =>
    intro i j x c hi hj
    have hlt : j < sz := by rw [← hs x]; exact (List.getElem?_eq_some_iff.1 hj).1
    cases i with
    | zero =>
      simp at hi
      subst hi
      rw [List.flatMap_cons, Nat.zero_mul, Nat.zero_add, List.getElem?_append_left (by rw [hs]; exact hlt)]
      exact hj
    | succ i =>
      simp at hi
      rw [List.flatMap_cons, List.getElem?_append_right (by rw [hs, Nat.succ_mul]; omega), hs]
      rw [show (i + 1) * sz + j - sz = i * sz + j from by rw [Nat.succ_mul]; omega]
      exact ih i j x c hi hj
theorem flat_len {α : Type} {enc : α → List Value} {sz : Nat} (hs : ∀ x, (enc x).length = sz) (xs : List α) : (xs.flatMap enc).length = xs.length * sz := by
  induction xs with
  | nil => simp
  | cons y ys ih => simp [List.flatMap_cons, hs, ih, Nat.succ_mul]; omega
/-- A row of the call's own, read as elements. -/
def RowT {α : Type} (enc : α → List Value) (e : TypeId) (sz : Nat) (v : Value) (xs : List α) (R : List (Nat × Obj)) : Prop := Row e sz v xs.length (xs.flatMap enc) R
theorem RowT.rd {α : Type} {enc : α → List Value} {e : TypeId} {sz : Nat} {v : Value} {xs : List α} {R L : List (Nat × Obj)} {h0 : Heap} {M : Nat → Prop} {h : Heap} (hs : ∀ x, (enc x).length = sz)
    (hR : RowT enc e sz v xs R) (gd : GoodH h0 M (R ++ L) h) : RdS enc sz h v xs := by
  unfold RowT at hR
  generalize hn : xs.length = n at hR
  generalize hf : xs.flatMap enc = f at hR
  cases hR with
  | nil =>
    obtain rfl := List.eq_nil_of_length_eq_zero hn
    exact RdS.nil _ _ _
  | one b cap cur _ _ h1 h2 h3 h4 =>
    refine ⟨some ⟨b, 0, none⟩, cap, by rw [hn], by omega, .inr ⟨b, 0, rfl, fun i x hi j c hj => ?_⟩⟩
    have hb : h[b]? = some (.cells cur e (0, 0)) := gd.own (b, .cells cur e (0, 0)) (by simp)
    rw [hcell_of hb, Nat.zero_add]
    have := flat_get hs xs i j x c hi hj
    rw [hf, ← h4, List.getElem?_take] at this
    split at this
    · simpa using this
    · simp at this
theorem RowT.nil {α : Type} (enc : α → List Value) (e : TypeId) (sz : Nat) : RowT enc e sz (.slice none 0 0) [] [] := Row.nil

def rangeV (r : Int × Int) : Value := .agg #[.int .i64 r.1, .int .i64 r.2]
def encRange (r : Int × Int) : List Value := [.int .i64 r.1, .int .i64 r.2]
theorem encRange_len (r : Int × Int) : (encRange r).length = 2 := rfl
def encInt (x : Int) : List Value := [.int .i64 x]
theorem encInt_len (x : Int) : (encInt x).length = 1 := rfl
theorem wrap64_id {x : Int} (h1 : -9223372036854775808 ≤ x) (h2 : x ≤ 9223372036854775807) : IntKind.i64.wrap x = x := by
  simp only [IntKind.wrap, IntKind.bits, IntKind.signed]
  simp
  omega
end Go.SX
