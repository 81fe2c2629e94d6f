/- A part of the proofs of this seat's statements: lemmas and contracts, each with its own premises. -/
import Derived.Test.YtddndccbdglmdaaC1
open Go Go.SX
namespace Go.Proofs.Ty
attribute [local irreducible] X
def addL (rs : List (Int × Int)) (r : Int × Int) : List (Int × Int) :=
  match rs.getLast? with
  | some l => if l.2 = r.1 then rs.dropLast ++ [(l.1, r.2)] else rs ++ [r]
  | none => [r]
theorem addL_snoc (ys : List (Int × Int)) (l r : Int × Int) : addL (ys ++ [l]) r = if l.2 = r.1 then ys ++ [(l.1, r.2)] else ys ++ [l, r] := by
  simp [addL]
theorem flatR_snoc (ys : List (Int × Int)) (l : Int × Int) : (ys ++ [l]).flatMap encRange = ys.flatMap encRange ++ [.int .i64 l.1, .int .i64 l.2] := by
  simp [List.flatMap_append, encRange]
theorem set_snoc2 (A : List Value) (a b x : Value) (m : Nat) (hm : m = A.length + 1) : (A ++ [a, b]).set m x = A ++ [a, x] := by
  subst hm
  rw [List.set_append_right _ _ (by omega)]
  simp
theorem add_ct (E : Env) {v : Value} {rs : List (Int × Int)} {r : Int × Int} {R L : List (Nat × Obj)} {h0 h : Heap} {M : Nat → Prop}
    (hR : RowT encRange 24 2 v rs R) (gd : GoodH h0 M (R ++ L) h) (hlen : rs.length ≤ 1099511627776) :
    Ct Try.prog E 91 #[v, rangeV r] h fun v' h' => ∃ R', RowT encRange 24 2 v' (addL rs r) R' ∧ GoodH h0 M (R' ++ L) h' := by
  rcases List.eq_nil_or_concat rs with rfl | ⟨ys, l, rfl⟩
  · unfold RowT at hR
    simp only [List.length_nil, List.flatMap_nil] at hR
    refine Ct.enter2 Try.func91 rfl rfl rfl ?_
    cases hR with
    | nil =>
      (repeat' (first | refine X.runP tbl 400 rfl rfl ?_ | (refine X.atCond ?_; first | refine X.cond_t rfl ?_ | refine X.cond_f rfl ?_) | (refine X.atLoad ?_; first | refine X.loadL tbl gd 0 rfl rfl rfl rfl rfl rfl ?_ | refine X.loadL tbl gd 1 rfl rfl rfl rfl rfl rfl ?_ | refine X.loadL tbl gd 2 rfl rfl rfl rfl rfl rfl ?_ | refine X.loadL tbl gd 3 rfl rfl rfl rfl rfl rfl ?_ | refine X.loadL tbl gd 4 rfl rfl rfl rfl rfl rfl ?_) | (refine X.atStore ?_; first | refine X.storeL tbl gd 0 rfl rfl rfl rfl rfl rfl rfl rfl rfl rfl rfl (fun h gd => ?_) | refine X.storeL tbl gd 1 rfl rfl rfl rfl rfl rfl rfl rfl rfl rfl rfl (fun h gd => ?_) | refine X.storeL tbl gd 2 rfl rfl rfl rfl rfl rfl rfl rfl rfl rfl rfl (fun h gd => ?_) | refine X.storeL tbl gd 3 rfl rfl rfl rfl rfl rfl rfl rfl rfl rfl rfl (fun h gd => ?_) | refine X.storeL tbl gd 4 rfl rfl rfl rfl rfl rfl rfl rfl rfl rfl rfl (fun h gd => ?_)) | (refine X.atBox ?_; refine X.box gd rfl rfl rfl rfl (fun b h gd => ?_)) | (refine X.atAlloc ?_; refine X.alloc tbl gd rfl rfl rfl rfl (fun b h gd => ?_)) | (refine X.atBuild ?_; refine X.build tbl rfl rfl rfl rfl rfl rfl ?_) | (refine X.atBuildSlice ?_; refine X.buildSlice tbl gd rfl rfl rfl rfl rfl (by decide) (by decide) rfl (fun b h gd => ?_)) | (refine X.atDraw ?_; refine X.regionQ mo (by kernel_rfl) ?_) | (refine X.atAppend ?_; refine X.append1 tbl (R := []) gd Row.nil rfl rfl rfl rfl rfl rfl rfl rfl rfl (by decide) (by decide) (by decide) ?_; intro v' R' h hR' gd) | (refine X.atGuard ?_; first | refine X.guard_t rfl rfl rfl ?_ | refine X.guard_f rfl rfl rfl ?_ | refine X.guard_pt rfl rfl rfl (by omega) ?_ | refine X.guard_pf rfl rfl rfl (by omega) ?_ | refine X.guard_p rfl rfl rfl (fun hp => ?_) (fun hp => ?_) | refine X.guard rfl rfl rfl (fun hp => ?_) (fun hp => ?_)) | (refine X.atCond ?_; first | refine X.cond_pt rfl (by omega) ?_ | refine X.cond_pf rfl (by omega) ?_ | refine X.cond_p rfl (fun hp => ?_) (fun hp => ?_) | refine X.cond rfl (fun hp => ?_) (fun hp => ?_))))
      exact X.retV rfl ⟨R', hR', gd.skip1⟩
    | one bR cap cur _ _ h1 h2 h3 h4 =>
      (repeat' (first | refine X.runP tbl 400 rfl rfl ?_ | (refine X.atCond ?_; first | refine X.cond_t rfl ?_ | refine X.cond_f rfl ?_) | (refine X.atLoad ?_; first | refine X.loadL tbl gd 0 rfl rfl rfl rfl rfl rfl ?_ | refine X.loadL tbl gd 1 rfl rfl rfl rfl rfl rfl ?_ | refine X.loadL tbl gd 2 rfl rfl rfl rfl rfl rfl ?_ | refine X.loadL tbl gd 3 rfl rfl rfl rfl rfl rfl ?_ | refine X.loadL tbl gd 4 rfl rfl rfl rfl rfl rfl ?_) | (refine X.atStore ?_; first | refine X.storeL tbl gd 0 rfl rfl rfl rfl rfl rfl rfl rfl rfl rfl rfl (fun h gd => ?_) | refine X.storeL tbl gd 1 rfl rfl rfl rfl rfl rfl rfl rfl rfl rfl rfl (fun h gd => ?_) | refine X.storeL tbl gd 2 rfl rfl rfl rfl rfl rfl rfl rfl rfl rfl rfl (fun h gd => ?_) | refine X.storeL tbl gd 3 rfl rfl rfl rfl rfl rfl rfl rfl rfl rfl rfl (fun h gd => ?_) | refine X.storeL tbl gd 4 rfl rfl rfl rfl rfl rfl rfl rfl rfl rfl rfl (fun h gd => ?_)) | (refine X.atBox ?_; refine X.box gd rfl rfl rfl rfl (fun b h gd => ?_)) | (refine X.atAlloc ?_; refine X.alloc tbl gd rfl rfl rfl rfl (fun b h gd => ?_)) | (refine X.atBuild ?_; refine X.build tbl rfl rfl rfl rfl rfl rfl ?_) | (refine X.atBuildSlice ?_; refine X.buildSlice tbl gd rfl rfl rfl rfl rfl (by decide) (by decide) rfl (fun b h gd => ?_)) | (refine X.atDraw ?_; refine X.regionQ mo (by kernel_rfl) ?_) | (refine X.atAppend ?_; refine X.append1 tbl (R := [(bR, .cells cur 24 (0, 0))]) (gd.perm (List.Perm.cons _ (List.Perm.swap _ _ _))) (Row.one bR cap cur _ _ h1 h2 h3 h4) rfl rfl rfl rfl rfl rfl rfl rfl rfl (by decide) (by decide) (by decide) ?_; intro v' R' h hR' gd) | (refine X.atGuard ?_; first | refine X.guard_t rfl rfl rfl ?_ | refine X.guard_f rfl rfl rfl ?_ | refine X.guard_pt rfl rfl rfl (by omega) ?_ | refine X.guard_pf rfl rfl rfl (by omega) ?_ | refine X.guard_p rfl rfl rfl (fun hp => ?_) (fun hp => ?_) | refine X.guard rfl rfl rfl (fun hp => ?_) (fun hp => ?_)) | (refine X.atCond ?_; first | refine X.cond_pt rfl (by omega) ?_ | refine X.cond_pf rfl (by omega) ?_ | refine X.cond_p rfl (fun hp => ?_) (fun hp => ?_) | refine X.cond rfl (fun hp => ?_) (fun hp => ?_))))
      exact X.retV rfl ⟨R', hR', gd.skip1⟩
  · unfold RowT at hR
    have hfl := flatR_snoc ys l
    have hle := flat_len encRange_len ys
    rw [List.concat_eq_append] at *
    rw [addL_snoc]
    rw [hfl] at hR
    simp only [List.length_append, List.length_cons, List.length_nil] at hR hlen
    generalize hA : ys.flatMap encRange = A at hR hle
    refine Ct.enter2 Try.func91 rfl rfl rfl ?_
    cases hR with
    | one bR cap cur _ _ h1 h2 h3 h4 =>
      have hcur : cur[0 + ys.length * 2 + 1]? = some (.int .i64 l.2) := by
        have : (cur.toList.take ((ys.length + 1) * 2))[ys.length * 2 + 1]? = some (.int .i64 l.2) := by
          rw [h4, ← hle, List.getElem?_append_right (by omega)]
          simp
        rw [List.getElem?_take] at this
        split at this
        · simpa using this
        · simp at this
      by_cases he : l.2 = r.1
      · have hb : (l.2 == r.1) = true := by simp [he]
        rw [if_pos he]
        (repeat' (first | refine X.runP tbl 400 rfl rfl ?_ | (refine X.atCond ?_; first | refine X.cond_t rfl ?_ | refine X.cond_f rfl ?_) | (refine X.atLoad ?_; first | refine X.loadL tbl gd 0 rfl rfl rfl rfl rfl rfl ?_ | refine X.loadL tbl gd 1 rfl rfl rfl rfl rfl rfl ?_ | refine X.loadL tbl gd 2 rfl rfl rfl rfl rfl rfl ?_ | refine X.loadL tbl gd 3 rfl rfl rfl rfl rfl rfl ?_ | refine X.loadL tbl gd 4 rfl rfl rfl rfl rfl rfl ?_) | (refine X.atStore ?_; first | refine X.storeL tbl gd 0 rfl rfl rfl rfl rfl rfl rfl rfl rfl rfl rfl (fun h gd => ?_) | refine X.storeL tbl gd 1 rfl rfl rfl rfl rfl rfl rfl rfl rfl rfl rfl (fun h gd => ?_) | refine X.storeL tbl gd 2 rfl rfl rfl rfl rfl rfl rfl rfl rfl rfl rfl (fun h gd => ?_) | refine X.storeL tbl gd 3 rfl rfl rfl rfl rfl rfl rfl rfl rfl rfl rfl (fun h gd => ?_) | refine X.storeL tbl gd 4 rfl rfl rfl rfl rfl rfl rfl rfl rfl rfl rfl (fun h gd => ?_)) | (refine X.atBox ?_; refine X.box gd rfl rfl rfl rfl (fun b h gd => ?_)) | (refine X.atAlloc ?_; refine X.alloc tbl gd rfl rfl rfl rfl (fun b h gd => ?_)) | (refine X.atBuild ?_; refine X.build tbl rfl rfl rfl rfl rfl rfl ?_) | (refine X.atBuildSlice ?_; refine X.buildSlice tbl gd rfl rfl rfl rfl rfl (by decide) (by decide) rfl (fun b h gd => ?_)) | (refine X.atDraw ?_; refine X.regionQ mo (by kernel_rfl) ?_) | (refine X.atIndex ?_; refine X.indexS tbl ys.length rfl rfl rfl rfl rfl rfl (by rw [wrap64_id] <;> omega) (by omega) ?_) | (refine X.atLoad ?_; refine X.loadR tbl gd 1 rfl rfl rfl rfl rfl rfl hcur ?_) | (refine X.atCond ?_; refine X.cond rfl (fun hp => ?_) (fun hp => absurd (hp.symm.trans hb) (by decide))) | (refine X.atStore ?_; refine X.store1 tbl gd 1 rfl rfl rfl rfl rfl rfl rfl rfl (by rw [h3]; show 0 + ys.length * 2 + 1 < _; omega) rfl rfl (fun h gd => ?_)) | (refine X.atGuard ?_; first | refine X.guard_t rfl rfl rfl ?_ | refine X.guard_f rfl rfl rfl ?_ | refine X.guard_pt rfl rfl rfl (by omega) ?_ | refine X.guard_pf rfl rfl rfl (by omega) ?_ | refine X.guard_p rfl rfl rfl (fun hp => ?_) (fun hp => ?_) | refine X.guard rfl rfl rfl (fun hp => ?_) (fun hp => ?_)) | (refine X.atCond ?_; first | refine X.cond_pt rfl (by omega) ?_ | refine X.cond_pf rfl (by omega) ?_ | refine X.cond_p rfl (fun hp => ?_) (fun hp => ?_) | refine X.cond rfl (fun hp => ?_) (fun hp => ?_))))
        refine X.retV rfl ⟨[(bR, .cells (cur.setIfInBounds (0 + ys.length * 2 + 1) (.int .i64 r.2)) 24 (0, 0))], ?_, gd.drop1⟩
        unfold RowT
        rw [show (ys ++ [(l.1, r.2)]).length = ys.length + (0 + 1) from by simp, flatR_snoc, hA]
        refine Row.one bR cap _ _ _ h1 h2 (by simpa using h3) ?_
        rw [Array.toList_setIfInBounds, List.take_set, h4]
        exact set_snoc2 _ _ _ _ _ (by omega)
      · have hb : (l.2 == r.1) = false := by simp [he]
        rw [if_neg he]
        (repeat' (first | refine X.runP tbl 400 rfl rfl ?_ | (refine X.atCond ?_; first | refine X.cond_t rfl ?_ | refine X.cond_f rfl ?_) | (refine X.atLoad ?_; first | refine X.loadL tbl gd 0 rfl rfl rfl rfl rfl rfl ?_ | refine X.loadL tbl gd 1 rfl rfl rfl rfl rfl rfl ?_ | refine X.loadL tbl gd 2 rfl rfl rfl rfl rfl rfl ?_ | refine X.loadL tbl gd 3 rfl rfl rfl rfl rfl rfl ?_ | refine X.loadL tbl gd 4 rfl rfl rfl rfl rfl rfl ?_) | (refine X.atStore ?_; first | refine X.storeL tbl gd 0 rfl rfl rfl rfl rfl rfl rfl rfl rfl rfl rfl (fun h gd => ?_) | refine X.storeL tbl gd 1 rfl rfl rfl rfl rfl rfl rfl rfl rfl rfl rfl (fun h gd => ?_) | refine X.storeL tbl gd 2 rfl rfl rfl rfl rfl rfl rfl rfl rfl rfl rfl (fun h gd => ?_) | refine X.storeL tbl gd 3 rfl rfl rfl rfl rfl rfl rfl rfl rfl rfl rfl (fun h gd => ?_) | refine X.storeL tbl gd 4 rfl rfl rfl rfl rfl rfl rfl rfl rfl rfl rfl (fun h gd => ?_)) | (refine X.atBox ?_; refine X.box gd rfl rfl rfl rfl (fun b h gd => ?_)) | (refine X.atAlloc ?_; refine X.alloc tbl gd rfl rfl rfl rfl (fun b h gd => ?_)) | (refine X.atBuild ?_; refine X.build tbl rfl rfl rfl rfl rfl rfl ?_) | (refine X.atBuildSlice ?_; refine X.buildSlice tbl gd rfl rfl rfl rfl rfl (by decide) (by decide) rfl (fun b h gd => ?_)) | (refine X.atDraw ?_; refine X.regionQ mo (by kernel_rfl) ?_) | (refine X.atIndex ?_; refine X.indexS tbl ys.length rfl rfl rfl rfl rfl rfl (by rw [wrap64_id] <;> omega) (by omega) ?_) | (refine X.atLoad ?_; refine X.loadR tbl gd 1 rfl rfl rfl rfl rfl rfl hcur ?_) | (refine X.atCond ?_; refine X.cond rfl (fun hp => absurd (hp.symm.trans hb) (by decide)) (fun hp => ?_)) | (refine X.atAppend ?_; refine X.append1 tbl (R := [(bR, .cells cur 24 (0, 0))]) (gd.perm (List.Perm.cons _ (List.Perm.swap _ _ _))) (Row.one bR cap cur _ _ h1 h2 h3 h4) rfl rfl rfl rfl rfl rfl rfl rfl rfl (by unfold maxLen; omega) (by show _ * 16 ≤ _; omega) (by decide) ?_; intro v' R' h hR' gd) | (refine X.atGuard ?_; first | refine X.guard_t rfl rfl rfl ?_ | refine X.guard_f rfl rfl rfl ?_ | refine X.guard_pt rfl rfl rfl (by omega) ?_ | refine X.guard_pf rfl rfl rfl (by omega) ?_ | refine X.guard_p rfl rfl rfl (fun hp => ?_) (fun hp => ?_) | refine X.guard rfl rfl rfl (fun hp => ?_) (fun hp => ?_)) | (refine X.atCond ?_; first | refine X.cond_pt rfl (by omega) ?_ | refine X.cond_pf rfl (by omega) ?_ | refine X.cond_p rfl (fun hp => ?_) (fun hp => ?_) | refine X.cond rfl (fun hp => ?_) (fun hp => ?_))))
        refine X.retV rfl ⟨R', ?_, gd.skip1⟩
        unfold RowT
        rw [show ys ++ [l, r] = (ys ++ [l]) ++ [r] from by simp, flatR_snoc, hfl, show (ys ++ [l] ++ [r]).length = ys.length + (0 + 1) + 1 from by simp, hA]
        exact hR'
end Go.Proofs.Ty
