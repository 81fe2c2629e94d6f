/- A part of the proofs of this seat's statements: lemmas and contracts, each with its own premises. -/
import Derived.Test.YtddndccbdglmdaaSX4
namespace Go.SX

def hcell (h : Heap) (a : Addr) : Option Value :=
  match h[a.block]? with
  | some (.cells c _ _) => if a.spot.isSome then none else c[a.off]?
  | _ => none
theorem cell_w (E : Env) (h : Heap) (d : Nat) (a : Addr) : (E.w h d).cell? a = hcell h a := rfl
theorem hcell_of {h : Heap} {b off : Nat} {cs : Array Value} {e : TypeId} {fz : Nat × Nat} (hb : h[b]? = some (.cells cs e fz)) : hcell h ⟨b, off, none⟩ = cs[off]? := by
  simp [hcell, hb]
theorem hcell_lt {h : Heap} {a : Addr} {v : Value} (hc : hcell h a = some v) : a.block < h.size := by
  unfold hcell at hc
  cases hb : h[a.block]? with
  | none => rw [hb] at hc; simp at hc
  | some o => exact (Array.getElem?_eq_some_iff.1 hb).1
theorem hcell_same {h h' : Heap} {a : Addr} (hb : h'[a.block]? = h[a.block]?) : hcell h' a = hcell h a := by simp [hcell, hb]
theorem add_plain (b off m : Nat) : (⟨b, off, none⟩ : Addr).add m = ⟨b, off + m, none⟩ := by
  unfold Addr.add; split <;> simp_all

/-- What lies at an address, read as one value. -/
def RdH (ti : TI) (h : Heap) (a : Addr) (v : Value) : Prop :=
  match ti.agg with
  | true => ∃ l : List Value, v = .agg l.toArray ∧ l.length = ti.size ∧ ∀ j, j < ti.size → hcell h (a.add j) = l[j]?
  | false => hcell h a = some v
theorem RdH.same {ti : TI} {h h' : Heap} {a : Addr} {v : Value} (hr : RdH ti h a v) (hs : h'[a.block]? = h[a.block]?) : RdH ti h' a v := by
  unfold RdH at *
  split at hr
  · obtain ⟨l, hv, hl, hc⟩ := hr
    refine ⟨l, hv, hl, fun j hj => ?_⟩
    rw [← hc j hj]
    exact hcell_same (by unfold Addr.add; split <;> exact hs)
  · exact (hcell_same hs).trans hr

section
variable {P : Program} {E : Env} {n : Nat} {post : Exit → Act → World → Prop} {dec : List Nat} {ks : List K} {fr : Fr} {h : Heap}
variable {q : Bool} {os : Array Oper} {rest : List Oper}

theorem run_load1 {a : Addr} {v : Value} {d : Nat} (hc : hcell h a = some v) : (load a).run P (E.w h d) = .ok v (E.w h d) := by
  simp only [load, Sem.run, cell_w, hc]
theorem run_loadFrom (a : Addr) (l : List Value) : ∀ (m i : Nat) (acc : Array Value) (d : Nat), (∀ j, j < m → hcell h (a.add (i + j)) = l[i + j]?) → i + m = l.length →
    (loadCellsFrom a i m acc).run P (E.w h d) = .ok (acc ++ (l.drop i).toArray) (E.w h d) := by
  intro m
  induction m with
  | zero => intro i acc d _ hl; simp [loadCellsFrom, List.drop_eq_nil_of_le (show l.length ≤ i by omega)]
  | succ m ih =>
    intro i acc d hc hl
    have hi : i < l.length := by omega
    have h0 := hc 0 (by omega)
    simp only [Nat.add_zero] at h0
    rw [List.getElem?_eq_getElem hi] at h0
    simp only [loadCellsFrom, run_bind', run_load1 h0]
    rw [ih (i + 1) _ d (fun j hj => by have := hc (j + 1) (by omega); rw [show i + 1 + j = i + (j + 1) from by omega]; exact this) (by omega)]
    rw [List.drop_eq_getElem_cons hi]
    simp
theorem run_loadVar {t : TypeId} {ti : TI} (ht : TOk P t ti) {a : Addr} {v : Value} {d : Nat} (hr : RdH ti h a v) : (loadVar t a).run P (E.w h d) = .ok v (E.w h d) := by
  unfold loadVar
  rw [run_bind', ht.run_agg]
  unfold RdH at hr
  split at hr
  · rename_i hag
    obtain ⟨l, rfl, hl, hc⟩ := hr
    simp only [hag, if_true, run_bind', ht.run_sizeOf, loadCells]
    rw [run_loadFrom a l ti.size 0 #[] d (by simpa using hc) (by omega)]
    simp
  · rename_i hag
    simp only [hag]
    exact run_load1 hr

theorem ValOp.load (T : Tbl P) {t : TypeId} {x : Operand} {ty pos af g dst} {ti : TI} {a : Addr} {v : Value}
    (hT : T.T t = some ti) (hx : evalO fr x = some (.pointer (some a))) (hr : RdH ti h a v) : ValOp P E n fr h ⟨dst, .load t x, ty, pos, af, g⟩ v := fun ac d ha => by
  simp only [execOp, run_bind', ha.eval hx, Instr.loadAt, Instr.sureAddr, run_pure', run_loadVar (T.ok _ _ hT) hr]
theorem X.load (T : Tbl P) {t : TypeId} {x : Operand} {ty pos af g dst} {ti : TI} {a : Addr} {v : Value} (hw : wantF os g fr = some true) (hd : dstOk n dst = true)
    (hT : T.T t = some ti) (hx : evalO fr x = some (.pointer (some a))) (hr : RdH ti h a v)
    (k : X P E n post dec (.ops q os rest :: ks) (putF dst v fr) h) :
    X P E n post dec (.ops q os (⟨dst, .load t x, ty, pos, af, g⟩ :: rest) :: ks) fr h := X.val hw hd (ValOp.load T hT hx hr) k

/-! the call's own blocks -/
structure GoodH (h0 : Heap) (M : Nat → Prop) (L : List (Nat × Obj)) (h : Heap) : Prop where
  size : h0.size ≤ h.size
  old : ∀ k, k < h0.size → ¬ M k → h[k]? = h0[k]?
  nd : (L.map (·.1)).Nodup
  own : ∀ p ∈ L, h[p.1]? = some p.2
  new : ∀ p ∈ L, h0.size ≤ p.1 ∨ M p.1

theorem GoodH.refl (h : Heap) (M : Nat → Prop) : GoodH h M [] h := ⟨Nat.le_refl _, fun _ _ _ => rfl, by simp, by simp, by simp⟩
def gnth : List (Nat × Obj) → Nat → Option (Nat × Obj)
  | [], _ => none
  | a :: _, 0 => some a
  | _ :: l, n + 1 => gnth l n
theorem gnth_eq (l : List (Nat × Obj)) (n : Nat) : gnth l n = l[n]? := by
  induction l generalizing n with
  | nil => simp [gnth]
  | cons a l ih => cases n <;> simp [gnth, ih]
def gset : List (Nat × Obj) → Nat → Obj → List (Nat × Obj)
  | [], _, _ => []
  | a :: l, 0, o => (a.1, o) :: l
  | a :: l, n + 1, o => a :: gset l n o
theorem gset_keys (l : List (Nat × Obj)) (n : Nat) (o : Obj) : (gset l n o).map (·.1) = l.map (·.1) := by
  induction l generalizing n with
  | nil => rfl
  | cons a l ih => cases n <;> simp [gset, ih]
theorem gset_mem {l : List (Nat × Obj)} {i : Nat} {o : Obj} {b : Nat} {o0 : Obj} (hn : gnth l i = some (b, o0)) (hnd : (l.map (·.1)).Nodup) : ∀ p ∈ gset l i o, p = (b, o) ∨ (p ∈ l ∧ p.1 ≠ b) := by
  induction l generalizing i with
  | nil => simp [gnth] at hn
  | cons a l ih =>
    cases i with
    | zero =>
      simp only [gnth, Option.some.injEq] at hn
      subst hn
      simp only [List.map_cons, List.nodup_cons] at hnd
      simp only [gset, List.mem_cons]
      rintro p (rfl | hp)
      · exact .inl rfl
      · exact .inr ⟨.inr hp, fun e => hnd.1 (List.mem_map.2 ⟨p, hp, e⟩)⟩
    | succ i =>
      simp only [gnth] at hn
      simp only [List.map_cons, List.nodup_cons] at hnd
      simp only [gset, List.mem_cons]
      have hbl : b ∈ l.map (·.1) := by
        rw [gnth_eq] at hn
        exact List.mem_map.2 ⟨_, List.mem_of_getElem? hn, rfl⟩
      rintro p (rfl | hp)
      · exact .inr ⟨.inl rfl, fun e => hnd.1 (e ▸ hbl)⟩
      · rcases ih hn hnd.2 p hp with h | ⟨h1, h2⟩
        · exact .inl h
        · exact .inr ⟨.inr h1, h2⟩

variable {h0 : Heap} {M : Nat → Prop} {L : List (Nat × Obj)}
theorem GoodH.at (g : GoodH h0 M L h) {i b : Nat} {o : Obj} (hi : gnth L i = some (b, o)) : h[b]? = some o := by
  rw [gnth_eq] at hi
  exact g.own _ (List.mem_of_getElem? hi)
theorem GoodH.lt (g : GoodH h0 M L h) : ∀ p ∈ L, p.1 < h.size := fun p hp => (Array.getElem?_eq_some_iff.1 (g.own p hp)).1
theorem GoodH.push (g : GoodH h0 M L h) (o : Obj) : GoodH h0 M ((h.size, o) :: L) (h.push o) := by
  have hnot : h.size ∉ L.map (·.1) := by
    intro hm
    obtain ⟨p, hp, e⟩ := List.mem_map.1 hm
    have := g.lt p hp
    omega
  refine ⟨by simp; have := g.size; omega, fun k hk hM => ?_, by simp only [List.map_cons, List.nodup_cons]; exact ⟨hnot, g.nd⟩, ?_, ?_⟩
  · rw [Array.getElem?_push, if_neg (by have := g.size; omega)]; exact g.old k hk hM
  · intro p hp
    rcases List.mem_cons.1 hp with rfl | hp
    · simp
    · rw [Array.getElem?_push, if_neg (by have := g.lt p hp; omega)]; exact g.own p hp
  · intro p hp
    rcases List.mem_cons.1 hp with rfl | hp
    · exact .inl g.size
    · exact g.new p hp
/-- One of the call's own blocks is another one. -/
theorem GoodH.setObj (g : GoodH h0 M L h) {i b : Nat} {o o' : Obj} (hi : gnth L i = some (b, o)) {h' : Heap} (hsz : h'.size = h.size) (hb : h'[b]? = some o') (hne : ∀ k, k ≠ b → h'[k]? = h[k]?) :
    GoodH h0 M (gset L i o') h' := by
  have hmem : (b, o) ∈ L := by rw [gnth_eq] at hi; exact List.mem_of_getElem? hi
  refine ⟨by rw [hsz]; exact g.size, fun k hk hM => ?_, by rw [gset_keys]; exact g.nd, ?_, ?_⟩
  · have hkb : k ≠ b := by
      rintro rfl
      rcases g.new _ hmem with h1 | h1
      · simp at h1; omega
      · exact hM h1
    rw [hne k hkb]; exact g.old k hk hM
  · intro p hp
    rcases gset_mem hi g.nd p hp with rfl | ⟨hp, hpb⟩
    · exact hb
    · rw [hne _ hpb]; exact g.own p hp
  · intro p hp
    rcases gset_mem hi g.nd p hp with rfl | ⟨hp, hpb⟩
    · exact g.new (b, o) hmem
    · exact g.new p hp
theorem GoodH.rd (g : GoodH h0 M L h) {i b off : Nat} {cs : Array Value} {e : TypeId} {fz : Nat × Nat} {v : Value} (hi : gnth L i = some (b, .cells cs e fz)) (hv : lnth cs.toList off = some v) :
    hcell h ⟨b, off, none⟩ = some v := by
  rw [hcell_of (g.at hi)]
  rw [lnth_eq] at hv
  simpa using hv
/-- what has not turned since -/
theorem GoodH.cell (g : GoodH h0 M L h) {a : Addr} {v : Value} (hc : hcell h0 a = some v) (hM : ¬ M a.block) : hcell h a = some v :=
  (hcell_same (g.old a.block (hcell_lt hc) hM)).trans hc
end

/-- exactly n of a list's elements, written out -/
def takeX : Nat → List Value → (List Value → Option Value) → Option Value
  | 0, _, k => k []
  | _ + 1, [], _ => none
  | n + 1, a :: l, k => takeX n l fun l' => k (a :: l')
theorem takeX_eq (m : Nat) : ∀ (l : List Value) (k : List Value → Option Value) (v : Value), takeX m l k = some v → m ≤ l.length ∧ k (l.take m) = some v := by
  induction m with
  | zero => intro l k v h; exact ⟨Nat.zero_le _, by simpa [takeX] using h⟩
  | succ m ih =>
    intro l k v h
    cases l with
    | nil => simp [takeX] at h
    | cons a l =>
      simp only [takeX] at h
      obtain ⟨h1, h2⟩ := ih _ _ _ h
      exact ⟨by simp; omega, by simpa using h2⟩
/-- A value read out of a row that is written out. -/
def rdL (ti : TI) (cs : List Value) (off : Nat) : Option Value :=
  match ti.agg with
  | true => takeX ti.size (ldrop off cs) fun l => some (.agg l.toArray)
  | false => lnth cs off
theorem rdL_RdH {ti : TI} {h : Heap} {b off : Nat} {cs : Array Value} {e : TypeId} {fz : Nat × Nat} {v : Value} (hb : h[b]? = some (.cells cs e fz)) (hv : rdL ti cs.toList off = some v) : RdH ti h ⟨b, off, none⟩ v := by
  unfold rdL at hv
  unfold RdH
  split at hv
  · rename_i hag
    obtain ⟨h1, h2⟩ := takeX_eq _ _ _ _ hv
    rw [ldrop_eq] at h1 h2
    simp at h2
    refine ⟨_, h2.symm, by simp at h1 ⊢; omega, fun j hj => ?_⟩
    rw [add_plain, hcell_of hb]
    simp at h1
    rw [List.getElem?_take_of_lt hj, List.getElem?_drop]
    simp
  · rename_i hag
    rw [hcell_of hb]
    rw [lnth_eq] at hv
    simpa using hv
end Go.SX
