/- A part of the proofs of this seat's statements: lemmas and contracts, each with its own premises. -/
import Derived.Test.YtddndccbdglmdaaSf
import Derived.Test.YtddndccbdglmdaaShEnd
import Derived.Test.YtddndccbdglmdaaOf
open Go Go.SX
namespace Go.Proofs.Ty
attribute [local irreducible] X
/-- An end: its place, whether it is the first one's. -/
abbrev Pe := { p : Int × Bool // 0 ≤ p.1 ∧ p.1 ≤ 4294967296 }
instance : Inhabited Pe := ⟨⟨(0, false), by simp⟩⟩
def encE (p : Int × Bool) : List Value := [.int .i64 p.1, .bool p.2]
def encPe (p : Pe) : List Value := encE p.1
def cfE (x y : Pe) : Int := x.1.1 - y.1.1
theorem cfE_lt (x y : Pe) : ltOf cfE x y = decide (x.1.1 < y.1.1) := by
  unfold ltOf cfE
  exact decide_eq_decide.2 (by omega)
theorem cfE_swo : Go.Sort.SWO (ltOf cfE) := by
  refine ⟨fun x => ?_, fun x y z h1 h2 => ?_, fun x y z h1 h2 => ?_⟩
  · rw [cfE_lt]; exact decide_eq_false (by omega)
  · rw [cfE_lt] at *; have h1 := of_decide_eq_true h1; have h2 := of_decide_eq_true h2; exact decide_eq_true (by omega)
  · rw [cfE_lt] at *; have h1 := of_decide_eq_false h1; have h2 := of_decide_eq_false h2; exact decide_eq_false (by omega)
theorem cmpE_ct (E : Env) (x y : Pe) (h0 : Heap) : Ct Try.prog E 162 #[.agg (encPe x).toArray, .agg (encPe y).toArray] h0 fun v h' => v = .int .i64 (cfE x y) ∧ Ext h0 h' := by
  obtain ⟨⟨xa, xf⟩, hx⟩ := x
  obtain ⟨⟨ya, yf⟩, hy⟩ := y
  simp only at hx hy
  unfold encPe encE cfE
  refine Ct.enter2 Try.func162 rfl rfl rfl ?_
  have gd := GoodH.refl h0 NoM
  (repeat' (first | refine X.runP tbl 400 rfl rfl ?_ | (refine X.atCond ?_; first | refine X.cond_t rfl ?_ | refine X.cond_f rfl ?_) | (refine X.atLoad ?_; first | refine X.loadL tbl gd 0 rfl rfl rfl rfl rfl rfl ?_ | refine X.loadL tbl gd 1 rfl rfl rfl rfl rfl rfl ?_ | refine X.loadL tbl gd 2 rfl rfl rfl rfl rfl rfl ?_ | refine X.loadL tbl gd 3 rfl rfl rfl rfl rfl rfl ?_ | refine X.loadL tbl gd 4 rfl rfl rfl rfl rfl rfl ?_) | (refine X.atStore ?_; first | refine X.storeL tbl gd 0 rfl rfl rfl rfl rfl rfl rfl rfl rfl rfl rfl (fun h gd => ?_) | refine X.storeL tbl gd 1 rfl rfl rfl rfl rfl rfl rfl rfl rfl rfl rfl (fun h gd => ?_) | refine X.storeL tbl gd 2 rfl rfl rfl rfl rfl rfl rfl rfl rfl rfl rfl (fun h gd => ?_) | refine X.storeL tbl gd 3 rfl rfl rfl rfl rfl rfl rfl rfl rfl rfl rfl (fun h gd => ?_) | refine X.storeL tbl gd 4 rfl rfl rfl rfl rfl rfl rfl rfl rfl rfl rfl (fun h gd => ?_)) | (refine X.atBox ?_; refine X.box gd rfl rfl rfl rfl (fun b h gd => ?_)) | (refine X.atAlloc ?_; refine X.alloc tbl gd rfl rfl rfl rfl (fun b h gd => ?_)) | (refine X.atBuild ?_; refine X.build tbl rfl rfl rfl rfl rfl rfl ?_) | (refine X.atBuildSlice ?_; refine X.buildSlice tbl gd rfl rfl rfl rfl rfl (by decide) (by decide) rfl (fun b h gd => ?_)) | (refine X.atDraw ?_; refine X.regionQ mo (by kernel_rfl) ?_) | (refine X.atGuard ?_; first | refine X.guard_t rfl rfl rfl ?_ | refine X.guard_f rfl rfl rfl ?_ | refine X.guard_pt rfl rfl rfl (by omega) ?_ | refine X.guard_pf rfl rfl rfl (by omega) ?_ | refine X.guard_p rfl rfl rfl (fun hp => ?_) (fun hp => ?_) | refine X.guard rfl rfl rfl (fun hp => ?_) (fun hp => ?_)) | (refine X.atCond ?_; first | refine X.cond_pt rfl (by omega) ?_ | refine X.cond_pf rfl (by omega) ?_ | refine X.cond_p rfl (fun hp => ?_) (fun hp => ?_) | refine X.cond rfl (fun hp => ?_) (fun hp => ?_))))
  refine X.retV (v := .int .i64 (IntKind.i64.wrap (xa - ya))) rfl ⟨?_, gd.toExt⟩
  rw [wrap64_id (by omega) (by omega)]
theorem sortEnd_ct (E : Env) {v : Value} {xs : List Pe} {R L : List (Nat × Obj)} {h0 h : Heap} {M : Nat → Prop} (hR : RowT encPe 179 2 v xs R) (gd : GoodH h0 M (R ++ L) h) (hlen : xs.length < 4611686018427387904) :
    Ct Try.prog E 161 #[v, .func (.func 162) #[] #[]] h fun u h' => u = .tuple #[] ∧ ∃ xs' R', RowT encPe 179 2 v xs' R' ∧ GoodH h0 M (R' ++ L) h' ∧ xs'.Perm xs ∧ ∀ (i j : Nat) (x y : Pe), i < j → xs'[i]? = some x → xs'[j]? = some y → ltOf cfE y x = false :=
  sortFunc_ct Try.sortEnd encPe 2 (fun _ => rfl) (fun x u hu => by
    simp only [encPe, encE, List.mem_cons, List.not_mem_nil, or_false] at hu
    rcases hu with rfl | rfl <;> rfl) rfl (fun w => Try.isAgg179 w) (fun w => Try.sizeOf179 w) cfE cfE_swo 162 #[] call162.out (fun E h x y => cmpE_ct E x y h) E hR gd hlen
end Go.Proofs.Ty
namespace Go.Proofs.Ty
attribute [local irreducible] X
def endsOf (b : Bool) (rs : List (Int × Int)) : List (Int × Bool) := rs.flatMap fun r => [(r.1, b), (r.2, b)]
theorem endsOf_len (b : Bool) (rs : List (Int × Int)) : (endsOf b rs).length = 2 * rs.length := by
  induction rs with
  | nil => rfl
  | cons r rs ih => simp only [endsOf, List.flatMap_cons, List.length_append, List.length_cons, List.length_nil] at *; omega
theorem endsOf_take {b : Bool} {rs : List (Int × Int)} {k : Nat} {r : Int × Int} (h : rs[k]? = some r) : endsOf b (rs.take (k + 1)) = endsOf b (rs.take k) ++ [(r.1, b), (r.2, b)] := by
  have hi : k < rs.length := (List.getElem?_eq_some_iff.1 h).1
  rw [List.take_succ_eq_append_getElem hi, (List.getElem?_eq_some_iff.1 h).2]
  simp [endsOf, List.flatMap_append]
theorem may_bd {rs : List (Int × Int)} : ∀ {p : Option Int}, mayFrom p rs = true → ∀ r ∈ rs, 0 ≤ r.1 ∧ r.1 < r.2 ∧ r.2 ≤ 4294967296 := by
  induction rs with
  | nil => simp
  | cons a rs ih =>
    intro p h r hr
    simp only [mayFrom, Bool.and_eq_true, decide_eq_true_eq] at h
    rcases List.mem_cons.1 hr with rfl | hr
    · omega
    · exact ih h.2 r hr
theorem endsOf_bd {b : Bool} {rs : List (Int × Int)} (h : mayR rs = true) : ∀ p ∈ endsOf b rs, 0 ≤ p.1 ∧ p.1 ≤ 4294967296 := by
  intro p hp
  simp only [endsOf, List.mem_flatMap, List.mem_cons, List.not_mem_nil, or_false] at hp
  obtain ⟨r, hr, hp⟩ := hp
  have := may_bd h r hr
  rcases hp with rfl | rfl <;> simp <;> omega
theorem flat_val (l : List Pe) : (l.map Subtype.val).flatMap encE = l.flatMap encPe := by
  induction l with
  | nil => rfl
  | cons a l ih => simp [List.flatMap_cons, ih, encPe]
theorem lift_pe (es : List (Int × Bool)) (h : ∀ p ∈ es, 0 ≤ p.1 ∧ p.1 ≤ 4294967296) : ∃ ys : List Pe, ys.map Subtype.val = es := by
  induction es with
  | nil => exact ⟨[], rfl⟩
  | cons a es ih =>
    obtain ⟨ys, hy⟩ := ih fun p hp => h p (List.mem_cons_of_mem _ hp)
    exact ⟨⟨a, h a (by simp)⟩ :: ys, by rw [List.map_cons, hy]⟩
theorem ends_ct (E : Env) {va vb : Value} {la lb : List (Int × Int)} {h0 : Heap} (ha : RdS encRange 2 h0 va la) (hb : RdS encRange 2 h0 vb lb) (hma : mayR la = true) (hmb : mayR lb = true)
    (hla : la.length ≤ 1099511627776) (hlb : lb.length ≤ 1099511627776) :
    Ct Try.prog E 114 #[va, vb] h0 fun v h' => ∃ xs R, RowT encE 179 2 v xs R ∧ GoodH h0 NoM R h' ∧ xs.Perm (endsOf true la ++ endsOf false lb) ∧ (∀ p ∈ xs, 0 ≤ p.1 ∧ p.1 ≤ 4294967296) ∧ ∀ (i j : Nat) (x y : Int × Bool), i < j → xs[i]? = some x → xs[j]? = some y → x.1 ≤ y.1 := by
  obtain ⟨aa, acap, rfl, hacap, hac0⟩ := ha
  obtain ⟨ab, bcap, rfl, hbcap, hbc0⟩ := hb
  refine Ct.enter2 Try.func114 rfl rfl rfl ?_
  have gd := GoodH.refl h0 NoM
  (repeat' (first | refine X.runP tbl 400 rfl rfl ?_ | (refine X.atCond ?_; first | refine X.cond_t rfl ?_ | refine X.cond_f rfl ?_) | (refine X.atLoad ?_; first | refine X.loadL tbl gd 0 rfl rfl rfl rfl rfl rfl ?_ | refine X.loadL tbl gd 1 rfl rfl rfl rfl rfl rfl ?_ | refine X.loadL tbl gd 2 rfl rfl rfl rfl rfl rfl ?_ | refine X.loadL tbl gd 3 rfl rfl rfl rfl rfl rfl ?_ | refine X.loadL tbl gd 4 rfl rfl rfl rfl rfl rfl ?_) | (refine X.atStore ?_; first | refine X.storeL tbl gd 0 rfl rfl rfl rfl rfl rfl rfl rfl rfl rfl rfl (fun h gd => ?_) | refine X.storeL tbl gd 1 rfl rfl rfl rfl rfl rfl rfl rfl rfl rfl rfl (fun h gd => ?_) | refine X.storeL tbl gd 2 rfl rfl rfl rfl rfl rfl rfl rfl rfl rfl rfl (fun h gd => ?_) | refine X.storeL tbl gd 3 rfl rfl rfl rfl rfl rfl rfl rfl rfl rfl rfl (fun h gd => ?_) | refine X.storeL tbl gd 4 rfl rfl rfl rfl rfl rfl rfl rfl rfl rfl rfl (fun h gd => ?_)) | (refine X.atBox ?_; refine X.box gd rfl rfl rfl rfl (fun b h gd => ?_)) | (refine X.atAlloc ?_; refine X.alloc tbl gd rfl rfl rfl rfl (fun b h gd => ?_)) | (refine X.atBuild ?_; refine X.build tbl rfl rfl rfl rfl rfl rfl ?_) | (refine X.atBuildSlice ?_; refine X.buildSlice tbl gd rfl rfl rfl rfl rfl (by decide) (by decide) rfl (fun b h gd => ?_)) | (refine X.atDraw ?_; refine X.regionQ mo (by kernel_rfl) ?_) | (refine X.atBuild ?_; refine X.buildA tbl rfl rfl rfl rfl rfl rfl ?_) | (refine X.atGuard ?_; first | refine X.guard_t rfl rfl rfl ?_ | refine X.guard_f rfl rfl rfl ?_ | refine X.guard_pt rfl rfl rfl (by omega) ?_ | refine X.guard_pf rfl rfl rfl (by omega) ?_ | refine X.guard_p rfl rfl rfl (fun hp => ?_) (fun hp => ?_) | refine X.guard rfl rfl rfl (fun hp => ?_) (fun hp => ?_)) | (refine X.atCond ?_; first | refine X.cond_pt rfl (by omega) ?_ | refine X.cond_pf rfl (by omega) ?_ | refine X.cond_p rfl (fun hp => ?_) (fun hp => ?_) | refine X.cond rfl (fun hp => ?_) (fun hp => ?_))))
  refine X.loop (S := Nat × Value × List (Nat × Obj)) (fun s => [(5, s.2.1), (12, .agg #[.slice aa la.length acap, .slice ab lb.length bcap]), (13, .int .i64 s.1)])
    (fun s h => GoodH h0 NoM s.2.2 h ∧ s.1 ≤ 2 ∧ RowT encE 179 2 s.2.1 (match s.1 with | 0 => [] | 1 => endsOf true la | _ => endsOf true la ++ endsOf false lb) s.2.2) (fun s => 2 - s.1) (0, .slice none 0 0, []) ⟨rfl, rfl, rfl, trivial⟩ ⟨gd, by simp, RowT.nil _ _ _⟩ ?_
  rintro ⟨i, v, R⟩ h ⟨gd, hi, hR⟩
  simp only at gd hi hR ⊢
  by_cases hlt : i < 2
  · obtain ⟨aI, ls, capI, f, hnI, hf, hcapI, hcI, hmI, hlI, hRI⟩ : ∃ (aI : Option Addr) (ls : List (Int × Int)) (capI : Nat) (f : Bool), lnth [.slice aa la.length acap, .slice ab lb.length bcap] i = some (.slice aI ls.length capI) ∧ ((i : Int) == 0) = f ∧ ls.length ≤ capI ∧
        (ls = [] ∨ ∃ b off, aI = some ⟨b, off, none⟩ ∧ ∀ i x, ls[i]? = some x → ∀ j c, (encRange x)[j]? = some c → hcell h0 ⟨b, off + i * 2 + j, none⟩ = some c) ∧ mayR ls = true ∧ ls.length ≤ 1099511627776 ∧
        ∃ pre, RowT encE 179 2 v pre R ∧ pre.length ≤ 2199023255552 ∧ (match i + 1 with | 0 => [] | 1 => endsOf true la | _ => endsOf true la ++ endsOf false lb) = pre ++ endsOf f ls := by
      rcases i with _ | _ | i
      · exact ⟨aa, la, acap, true, rfl, rfl, hacap, hac0, hma, hla, [], hR, by simp, rfl⟩
      · exact ⟨ab, lb, bcap, false, rfl, rfl, hbcap, hbc0, hmb, hlb, endsOf true la, hR, by rw [endsOf_len]; omega, rfl⟩
      · omega
    obtain ⟨pre, hRp, hpl, hnext⟩ := hRI
    clear hR
    (repeat' (first | refine X.runP tbl 400 rfl rfl ?_ | (refine X.atCond ?_; first | refine X.cond_t rfl ?_ | refine X.cond_f rfl ?_) | (refine X.atLoad ?_; first | refine X.loadL tbl gd 0 rfl rfl rfl rfl rfl rfl ?_ | refine X.loadL tbl gd 1 rfl rfl rfl rfl rfl rfl ?_ | refine X.loadL tbl gd 2 rfl rfl rfl rfl rfl rfl ?_ | refine X.loadL tbl gd 3 rfl rfl rfl rfl rfl rfl ?_ | refine X.loadL tbl gd 4 rfl rfl rfl rfl rfl rfl ?_) | (refine X.atStore ?_; first | refine X.storeL tbl gd 0 rfl rfl rfl rfl rfl rfl rfl rfl rfl rfl rfl (fun h gd => ?_) | refine X.storeL tbl gd 1 rfl rfl rfl rfl rfl rfl rfl rfl rfl rfl rfl (fun h gd => ?_) | refine X.storeL tbl gd 2 rfl rfl rfl rfl rfl rfl rfl rfl rfl rfl rfl (fun h gd => ?_) | refine X.storeL tbl gd 3 rfl rfl rfl rfl rfl rfl rfl rfl rfl rfl rfl (fun h gd => ?_) | refine X.storeL tbl gd 4 rfl rfl rfl rfl rfl rfl rfl rfl rfl rfl rfl (fun h gd => ?_)) | (refine X.atBox ?_; refine X.box gd rfl rfl rfl rfl (fun b h gd => ?_)) | (refine X.atAlloc ?_; refine X.alloc tbl gd rfl rfl rfl rfl (fun b h gd => ?_)) | (refine X.atBuild ?_; refine X.build tbl rfl rfl rfl rfl rfl rfl ?_) | (refine X.atBuildSlice ?_; refine X.buildSlice tbl gd rfl rfl rfl rfl rfl (by decide) (by decide) rfl (fun b h gd => ?_)) | (refine X.atDraw ?_; refine X.regionQ mo (by kernel_rfl) ?_) | (refine X.atCond ?_; refine X.cond_pt rfl (by omega) ?_) | (refine X.atIndexV ?_; refine X.indexV tbl i rfl rfl rfl rfl rfl rfl rfl rfl rfl hlt hnI ?_) | (refine X.atGuard ?_; first | refine X.guard_t rfl rfl rfl ?_ | refine X.guard_f rfl rfl rfl ?_ | refine X.guard_pt rfl rfl rfl (by omega) ?_ | refine X.guard_pf rfl rfl rfl (by omega) ?_ | refine X.guard_p rfl rfl rfl (fun hp => ?_) (fun hp => ?_) | refine X.guard rfl rfl rfl (fun hp => ?_) (fun hp => ?_)) | (refine X.atCond ?_; first | refine X.cond_pt rfl (by omega) ?_ | refine X.cond_pf rfl (by omega) ?_ | refine X.cond_p rfl (fun hp => ?_) (fun hp => ?_) | refine X.cond rfl (fun hp => ?_) (fun hp => ?_))))
    refine X.loop (S := Nat × Value × List (Nat × Obj)) (fun s => [(12, .agg #[.slice aa la.length acap, .slice ab lb.length bcap]), (13, .int .i64 i), (6, .int .i64 i), (17, .slice aI ls.length capI), (18, .int .i64 ls.length), (19, .int .i64 s.1), (5, s.2.1)])
      (fun s h => GoodH h0 NoM s.2.2 h ∧ s.1 ≤ ls.length ∧ RowT encE 179 2 s.2.1 (pre ++ endsOf f (ls.take s.1)) s.2.2) (fun s => ls.length - s.1) (0, v, R) ⟨rfl, rfl, rfl, rfl, rfl, rfl, rfl, trivial⟩ ⟨gd, by simp, by simpa [endsOf] using hRp⟩ ?_
    rintro ⟨k, v, R⟩ h ⟨gd, hk, hR⟩
    simp only at gd hk hR ⊢
    by_cases hltk : k < ls.length
    · obtain ⟨b0, off, rfl, hc⟩ : ∃ b off, aI = some ⟨b, off, none⟩ ∧ ∀ i x, ls[i]? = some x → ∀ j c, (encRange x)[j]? = some c → hcell h0 ⟨b, off + i * 2 + j, none⟩ = some c := by
        rcases hcI with rfl | hc0
        · simp at hltk
        · exact hc0
      have hr : ls[k]? = some ls[k] := List.getElem?_eq_getElem hltk
      generalize ls[k] = r at hr
      have hl : RdH i24 h0 ⟨b0, off + k * 2, none⟩ (rangeV r) := rd_agg (l := encRange r) rfl rfl (fun j c hj => hc k r hr j c hj)
      have hb0 : b0 < h0.size := hcell_lt (hc k r hr 0 _ rfl)
      have hlen : (pre ++ endsOf f (ls.take k)).length ≤ 6000000000000 := by
        rw [List.length_append, endsOf_len, List.length_take]; omega
      have hR2 := hR
      unfold RowT at hR2
      (repeat' (first | refine X.runP tbl 400 rfl rfl ?_ | (refine X.atCond ?_; first | refine X.cond_t rfl ?_ | refine X.cond_f rfl ?_) | (refine X.atLoad ?_; first | refine X.loadL tbl gd 0 rfl rfl rfl rfl rfl rfl ?_ | refine X.loadL tbl gd 1 rfl rfl rfl rfl rfl rfl ?_ | refine X.loadL tbl gd 2 rfl rfl rfl rfl rfl rfl ?_ | refine X.loadL tbl gd 3 rfl rfl rfl rfl rfl rfl ?_ | refine X.loadL tbl gd 4 rfl rfl rfl rfl rfl rfl ?_) | (refine X.atStore ?_; first | refine X.storeL tbl gd 0 rfl rfl rfl rfl rfl rfl rfl rfl rfl rfl rfl (fun h gd => ?_) | refine X.storeL tbl gd 1 rfl rfl rfl rfl rfl rfl rfl rfl rfl rfl rfl (fun h gd => ?_) | refine X.storeL tbl gd 2 rfl rfl rfl rfl rfl rfl rfl rfl rfl rfl rfl (fun h gd => ?_) | refine X.storeL tbl gd 3 rfl rfl rfl rfl rfl rfl rfl rfl rfl rfl rfl (fun h gd => ?_) | refine X.storeL tbl gd 4 rfl rfl rfl rfl rfl rfl rfl rfl rfl rfl rfl (fun h gd => ?_)) | (refine X.atBox ?_; refine X.box gd rfl rfl rfl rfl (fun b h gd => ?_)) | (refine X.atAlloc ?_; refine X.alloc tbl gd rfl rfl rfl rfl (fun b h gd => ?_)) | (refine X.atBuild ?_; refine X.build tbl rfl rfl rfl rfl rfl rfl ?_) | (refine X.atBuildSlice ?_; refine X.buildSlice tbl gd rfl rfl rfl rfl rfl (by decide) (by decide) rfl (fun b h gd => ?_)) | (refine X.atDraw ?_; refine X.regionQ mo (by kernel_rfl) ?_) | (refine X.atCond ?_; refine X.cond_pt rfl (by omega) ?_) | (refine X.atIndex ?_; refine X.indexS tbl k rfl rfl rfl rfl rfl rfl rfl hltk ?_) | (refine X.atLoad ?_; refine X.loadA tbl gd rfl rfl rfl rfl hl hb0 id ?_) | (refine X.atAppend ?_; refine X.append1 tbl (R := R) (gd.perm (List.Perm.cons _ (List.perm_append_singleton _ _).symm)) hR2 rfl rfl rfl rfl rfl rfl rfl rfl rfl (by unfold maxLen; omega) (by show _ * 16 ≤ _; omega) (by decide) ?_; intro v' R' h hR' gd) | (refine X.atGuard ?_; first | refine X.guard_t rfl rfl rfl ?_ | refine X.guard_f rfl rfl rfl ?_ | refine X.guard_pt rfl rfl rfl (by omega) ?_ | refine X.guard_pf rfl rfl rfl (by omega) ?_ | refine X.guard_p rfl rfl rfl (fun hp => ?_) (fun hp => ?_) | refine X.guard rfl rfl rfl (fun hp => ?_) (fun hp => ?_)) | (refine X.atCond ?_; first | refine X.cond_pt rfl (by omega) ?_ | refine X.cond_pf rfl (by omega) ?_ | refine X.cond_p rfl (fun hp => ?_) (fun hp => ?_) | refine X.cond rfl (fun hp => ?_) (fun hp => ?_))))
      refine X.round (k + 1, v', R') ⟨rfl, rfl, rfl, rfl, rfl, ?_, rfl, trivial⟩ ⟨gd.sub (List.sublist_append_left _ _), by omega, ?_⟩ (by show _ - (k + 1) < _ - k; omega)
      · show some _ = some _
        rw [wrap64_id (by omega) (by omega)]
        rfl
      · show RowT encE _ 2 v' (pre ++ endsOf f (ls.take (k + 1))) R'
        rw [endsOf_take hr, ← List.append_assoc]
        unfold RowT
        rw [List.flatMap_append, List.length_append]
        rw [hf] at hR'
        exact hR'
    · obtain rfl : k = ls.length := by omega
      (repeat' (first | refine X.runP tbl 400 rfl rfl ?_ | (refine X.atCond ?_; first | refine X.cond_t rfl ?_ | refine X.cond_f rfl ?_) | (refine X.atLoad ?_; first | refine X.loadL tbl gd 0 rfl rfl rfl rfl rfl rfl ?_ | refine X.loadL tbl gd 1 rfl rfl rfl rfl rfl rfl ?_ | refine X.loadL tbl gd 2 rfl rfl rfl rfl rfl rfl ?_ | refine X.loadL tbl gd 3 rfl rfl rfl rfl rfl rfl ?_ | refine X.loadL tbl gd 4 rfl rfl rfl rfl rfl rfl ?_) | (refine X.atStore ?_; first | refine X.storeL tbl gd 0 rfl rfl rfl rfl rfl rfl rfl rfl rfl rfl rfl (fun h gd => ?_) | refine X.storeL tbl gd 1 rfl rfl rfl rfl rfl rfl rfl rfl rfl rfl rfl (fun h gd => ?_) | refine X.storeL tbl gd 2 rfl rfl rfl rfl rfl rfl rfl rfl rfl rfl rfl (fun h gd => ?_) | refine X.storeL tbl gd 3 rfl rfl rfl rfl rfl rfl rfl rfl rfl rfl rfl (fun h gd => ?_) | refine X.storeL tbl gd 4 rfl rfl rfl rfl rfl rfl rfl rfl rfl rfl rfl (fun h gd => ?_)) | (refine X.atBox ?_; refine X.box gd rfl rfl rfl rfl (fun b h gd => ?_)) | (refine X.atAlloc ?_; refine X.alloc tbl gd rfl rfl rfl rfl (fun b h gd => ?_)) | (refine X.atBuild ?_; refine X.build tbl rfl rfl rfl rfl rfl rfl ?_) | (refine X.atBuildSlice ?_; refine X.buildSlice tbl gd rfl rfl rfl rfl rfl (by decide) (by decide) rfl (fun b h gd => ?_)) | (refine X.atDraw ?_; refine X.regionQ mo (by kernel_rfl) ?_) | (refine X.atCond ?_; refine X.cond_pf rfl (by omega) ?_) | (refine X.atGuard ?_; first | refine X.guard_t rfl rfl rfl ?_ | refine X.guard_f rfl rfl rfl ?_ | refine X.guard_pt rfl rfl rfl (by omega) ?_ | refine X.guard_pf rfl rfl rfl (by omega) ?_ | refine X.guard_p rfl rfl rfl (fun hp => ?_) (fun hp => ?_) | refine X.guard rfl rfl rfl (fun hp => ?_) (fun hp => ?_)) | (refine X.atCond ?_; first | refine X.cond_pt rfl (by omega) ?_ | refine X.cond_pf rfl (by omega) ?_ | refine X.cond_p rfl (fun hp => ?_) (fun hp => ?_) | refine X.cond rfl (fun hp => ?_) (fun hp => ?_))))
      refine X.round (i + 1, v, R) ⟨rfl, rfl, ?_, trivial⟩ ⟨gd, by omega, ?_⟩ (by show _ - (i + 1) < _ - i; omega)
      · show some _ = some _
        rw [wrap64_id (by omega) (by omega)]
        rfl
      · show RowT encE _ 2 v _ R
        rw [hnext]
        rw [List.take_length] at hR
        exact hR
  · obtain rfl : i = 2 := by omega
    have hall : ∀ p ∈ endsOf true la ++ endsOf false lb, 0 ≤ p.1 ∧ p.1 ≤ 4294967296 := by
      intro p hp
      rcases List.mem_append.1 hp with hp | hp
      · exact endsOf_bd hma p hp
      · exact endsOf_bd hmb p hp
    have hl2 : (endsOf true la ++ endsOf false lb).length ≤ 6000000000000 := by rw [List.length_append, endsOf_len, endsOf_len]; omega
    simp only at hR
    generalize endsOf true la ++ endsOf false lb = es at *
    obtain ⟨ys, rfl⟩ := lift_pe es hall
    have hR' : RowT encPe 179 2 v ys R := by
      unfold RowT at hR ⊢
      rw [flat_val, List.length_map] at hR
      exact hR
    rw [List.length_map] at hl2
    (repeat' (first | refine X.runP tbl 400 rfl rfl ?_ | (refine X.atCond ?_; first | refine X.cond_t rfl ?_ | refine X.cond_f rfl ?_) | (refine X.atLoad ?_; first | refine X.loadL tbl gd 0 rfl rfl rfl rfl rfl rfl ?_ | refine X.loadL tbl gd 1 rfl rfl rfl rfl rfl rfl ?_ | refine X.loadL tbl gd 2 rfl rfl rfl rfl rfl rfl ?_ | refine X.loadL tbl gd 3 rfl rfl rfl rfl rfl rfl ?_ | refine X.loadL tbl gd 4 rfl rfl rfl rfl rfl rfl ?_) | (refine X.atStore ?_; first | refine X.storeL tbl gd 0 rfl rfl rfl rfl rfl rfl rfl rfl rfl rfl rfl (fun h gd => ?_) | refine X.storeL tbl gd 1 rfl rfl rfl rfl rfl rfl rfl rfl rfl rfl rfl (fun h gd => ?_) | refine X.storeL tbl gd 2 rfl rfl rfl rfl rfl rfl rfl rfl rfl rfl rfl (fun h gd => ?_) | refine X.storeL tbl gd 3 rfl rfl rfl rfl rfl rfl rfl rfl rfl rfl rfl (fun h gd => ?_) | refine X.storeL tbl gd 4 rfl rfl rfl rfl rfl rfl rfl rfl rfl rfl rfl (fun h gd => ?_)) | (refine X.atBox ?_; refine X.box gd rfl rfl rfl rfl (fun b h gd => ?_)) | (refine X.atAlloc ?_; refine X.alloc tbl gd rfl rfl rfl rfl (fun b h gd => ?_)) | (refine X.atBuild ?_; refine X.build tbl rfl rfl rfl rfl rfl rfl ?_) | (refine X.atBuildSlice ?_; refine X.buildSlice tbl gd rfl rfl rfl rfl rfl (by decide) (by decide) rfl (fun b h gd => ?_)) | (refine X.atDraw ?_; refine X.regionQ mo (by kernel_rfl) ?_) | (refine X.atCond ?_; refine X.cond_pf rfl (by omega) ?_) | (refine X.atCall 161 ?_; refine X.call call161 rfl rfl rfl ((sortEnd_ct E (L := []) hR' (by simpa using gd) (by omega)).mono ?_); rintro _ h ⟨rfl, xs, R1, hR1, gd, hperm, hsort⟩) | (refine X.atGuard ?_; first | refine X.guard_t rfl rfl rfl ?_ | refine X.guard_f rfl rfl rfl ?_ | refine X.guard_pt rfl rfl rfl (by omega) ?_ | refine X.guard_pf rfl rfl rfl (by omega) ?_ | refine X.guard_p rfl rfl rfl (fun hp => ?_) (fun hp => ?_) | refine X.guard rfl rfl rfl (fun hp => ?_) (fun hp => ?_)) | (refine X.atCond ?_; first | refine X.cond_pt rfl (by omega) ?_ | refine X.cond_pf rfl (by omega) ?_ | refine X.cond_p rfl (fun hp => ?_) (fun hp => ?_) | refine X.cond rfl (fun hp => ?_) (fun hp => ?_))))
    refine X.retV rfl ⟨xs.map Subtype.val, R1, ?_, by simpa using gd, hperm.map _, ?_, ?_⟩
    · unfold RowT
      rw [flat_val, List.length_map]
      exact hR1
    · intro p hp
      obtain ⟨x, hx, rfl⟩ := List.mem_map.1 hp
      exact x.2
    · intro i j x y hij hx hy
      rw [List.getElem?_map, Option.map_eq_some_iff] at hx hy
      obtain ⟨x, hx, rfl⟩ := hx
      obtain ⟨y, hy, rfl⟩ := hy
      have := hsort i j x y hij hx hy
      rw [cfE_lt] at this
      have := of_decide_eq_false this
      omega
end Go.Proofs.Ty
