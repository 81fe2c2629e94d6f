/- A part of the proofs of this seat's statements: lemmas and contracts, each with its own premises. -/
import Derived.Test.YtddndccbdglmdaaG6
open Go Go.SX
namespace Go.Proofs.Ty
attribute [local irreducible] X
/-- reading an element -/
theorem rd_agg {ti : TI} {h : Heap} {b off : Nat} {l : List Value} (hag : ti.agg = true) (hl : l.length = ti.size) (hc : ∀ (j : Nat) (c : Value), l[j]? = some c → hcell h ⟨b, off + j, none⟩ = some c) : RdH ti h ⟨b, off, none⟩ (.agg l.toArray) := by
  unfold RdH
  rw [hag]
  refine ⟨l, rfl, hl, fun j hj => ?_⟩
  rw [add_plain]
  have : l[j]? = some l[j] := List.getElem?_eq_getElem (by omega)
  rw [this]
  exact hc j _ this
theorem rd_one {ti : TI} {h : Heap} {a : Addr} {v : Value} (hag : ti.agg = false) (hc : hcell h a = some v) : RdH ti h a v := by
  unfold RdH
  rw [hag]
  exact hc

def mayFrom : Option Int → List (Int × Int) → Bool
  | _, [] => true
  | p, r :: rs => decide (0 ≤ r.1) && decide (r.1 < r.2) && decide (r.2 ≤ 4294967296) && (match p with | none => true | some t => decide (t < r.1)) && mayFrom (some r.2) rs
def mayR (rs : List (Int × Int)) : Bool := mayFrom none rs
def prevOf (rs : List (Int × Int)) (k : Nat) : Option Int := match k with | 0 => none | k + 1 => (rs[k]?).map (·.2)
theorem mayFrom_step {rs : List (Int × Int)} {k : Nat} {r : Int × Int} (hr : rs[k]? = some r) : mayFrom (prevOf rs k) (rs.drop k) =
    (decide (0 ≤ r.1) && decide (r.1 < r.2) && decide (r.2 ≤ 4294967296) && (match prevOf rs k with | none => true | some t => decide (t < r.1)) && mayFrom (prevOf rs (k + 1)) (rs.drop (k + 1))) := by
  have hk : k < rs.length := (List.getElem?_eq_some_iff.1 hr).1
  have hd : rs.drop k = r :: rs.drop (k + 1) := by rw [List.drop_eq_getElem_cons hk, (List.getElem?_eq_some_iff.1 hr).2]
  rw [hd]
  simp [mayFrom, prevOf, hr]
theorem may_ct (E : Env) (v : Value) (rs : List (Int × Int)) (h0 : Heap) (hv : RdS encRange 2 h0 v rs) (hlen : rs.length ≤ 4611686018427387904) :
    Ct Try.prog E 15 #[v] h0 fun u h' => u = .bool (mayR rs) ∧ Ext h0 h' := by
  obtain ⟨a, cap, rfl, hcap, hc0⟩ := hv
  refine Ct.enter1 Try.func15 rfl rfl rfl ?_
  have gd := GoodH.refl h0 NoM
  (repeat' (first | refine X.runP tbl 400 rfl rfl ?_ | (refine X.atCond ?_; first | refine X.cond_t rfl ?_ | refine X.cond_f rfl ?_) | (refine X.atLoad ?_; first | refine X.loadL tbl gd 0 rfl rfl rfl rfl rfl rfl ?_ | refine X.loadL tbl gd 1 rfl rfl rfl rfl rfl rfl ?_ | refine X.loadL tbl gd 2 rfl rfl rfl rfl rfl rfl ?_ | refine X.loadL tbl gd 3 rfl rfl rfl rfl rfl rfl ?_ | refine X.loadL tbl gd 4 rfl rfl rfl rfl rfl rfl ?_) | (refine X.atStore ?_; first | refine X.storeL tbl gd 0 rfl rfl rfl rfl rfl rfl rfl rfl rfl rfl rfl (fun h gd => ?_) | refine X.storeL tbl gd 1 rfl rfl rfl rfl rfl rfl rfl rfl rfl rfl rfl (fun h gd => ?_) | refine X.storeL tbl gd 2 rfl rfl rfl rfl rfl rfl rfl rfl rfl rfl rfl (fun h gd => ?_) | refine X.storeL tbl gd 3 rfl rfl rfl rfl rfl rfl rfl rfl rfl rfl rfl (fun h gd => ?_) | refine X.storeL tbl gd 4 rfl rfl rfl rfl rfl rfl rfl rfl rfl rfl rfl (fun h gd => ?_)) | (refine X.atBox ?_; refine X.box gd rfl rfl rfl rfl (fun b h gd => ?_)) | (refine X.atAlloc ?_; refine X.alloc tbl gd rfl rfl rfl rfl (fun b h gd => ?_)) | (refine X.atBuild ?_; refine X.build tbl rfl rfl rfl rfl rfl rfl ?_) | (refine X.atBuildSlice ?_; refine X.buildSlice tbl gd rfl rfl rfl rfl rfl (by decide) (by decide) rfl (fun b h gd => ?_)) | (refine X.atDraw ?_; refine X.regionQ mo (by kernel_rfl) ?_) | (refine X.atGuard ?_; first | refine X.guard_t rfl rfl rfl ?_ | refine X.guard_f rfl rfl rfl ?_ | refine X.guard_pt rfl rfl rfl (by omega) ?_ | refine X.guard_pf rfl rfl rfl (by omega) ?_ | refine X.guard_p rfl rfl rfl (fun hp => ?_) (fun hp => ?_) | refine X.guard rfl rfl rfl (fun hp => ?_) (fun hp => ?_)) | (refine X.atCond ?_; first | refine X.cond_pt rfl (by omega) ?_ | refine X.cond_pf rfl (by omega) ?_ | refine X.cond_p rfl (fun hp => ?_) (fun hp => ?_) | refine X.cond rfl (fun hp => ?_) (fun hp => ?_))))
  refine X.loop (S := Nat) (fun k => [(7, .int .i64 k), (0, .slice a rs.length cap), (5, .slice a rs.length cap), (6, .int .i64 rs.length)])
    (fun k h => GoodH h0 NoM [] h ∧ k ≤ rs.length ∧ mayR rs = mayFrom (prevOf rs k) (rs.drop k)) (fun k => rs.length - k) 0 ⟨rfl, rfl, rfl, rfl, trivial⟩ ⟨gd, Nat.zero_le _, rfl⟩ ?_
  rintro k h ⟨gd, hk, hm⟩
  by_cases hlt : k < rs.length
  · obtain ⟨b0, off, rfl, hc⟩ : ∃ b off, a = some ⟨b, off, none⟩ ∧ ∀ i x, rs[i]? = some x → ∀ j c, (encRange x)[j]? = some c → hcell h0 ⟨b, off + i * 2 + j, none⟩ = some c := by
      rcases hc0 with rfl | hc0
      · simp at hlt
      · exact hc0
    have hr : rs[k]? = some rs[k] := List.getElem?_eq_getElem hlt
    generalize rs[k] = r at hr
    have hl : RdH i24 h0 ⟨b0, off + k * 2, none⟩ (rangeV r) := rd_agg (l := encRange r) rfl rfl (fun j c hj => hc k r hr j c hj)
    have hb0 : b0 < h0.size := hcell_lt (hc k r hr 0 _ rfl)
    rw [mayFrom_step hr] at hm
    have fin : ∀ (b : Bool), b = mayR rs → Value.bool b = Value.bool (mayR rs) := fun b hb => by rw [hb]
    cases k with
    | zero =>
      (repeat' (first | refine X.runP tbl 400 rfl rfl ?_ | (refine X.atCond ?_; first | refine X.cond_t rfl ?_ | refine X.cond_f rfl ?_) | (refine X.atLoad ?_; first | refine X.loadL tbl gd 0 rfl rfl rfl rfl rfl rfl ?_ | refine X.loadL tbl gd 1 rfl rfl rfl rfl rfl rfl ?_ | refine X.loadL tbl gd 2 rfl rfl rfl rfl rfl rfl ?_ | refine X.loadL tbl gd 3 rfl rfl rfl rfl rfl rfl ?_ | refine X.loadL tbl gd 4 rfl rfl rfl rfl rfl rfl ?_) | (refine X.atStore ?_; first | refine X.storeL tbl gd 0 rfl rfl rfl rfl rfl rfl rfl rfl rfl rfl rfl (fun h gd => ?_) | refine X.storeL tbl gd 1 rfl rfl rfl rfl rfl rfl rfl rfl rfl rfl rfl (fun h gd => ?_) | refine X.storeL tbl gd 2 rfl rfl rfl rfl rfl rfl rfl rfl rfl rfl rfl (fun h gd => ?_) | refine X.storeL tbl gd 3 rfl rfl rfl rfl rfl rfl rfl rfl rfl rfl rfl (fun h gd => ?_) | refine X.storeL tbl gd 4 rfl rfl rfl rfl rfl rfl rfl rfl rfl rfl rfl (fun h gd => ?_)) | (refine X.atBox ?_; refine X.box gd rfl rfl rfl rfl (fun b h gd => ?_)) | (refine X.atAlloc ?_; refine X.alloc tbl gd rfl rfl rfl rfl (fun b h gd => ?_)) | (refine X.atBuild ?_; refine X.build tbl rfl rfl rfl rfl rfl rfl ?_) | (refine X.atBuildSlice ?_; refine X.buildSlice tbl gd rfl rfl rfl rfl rfl (by decide) (by decide) rfl (fun b h gd => ?_)) | (refine X.atDraw ?_; refine X.regionQ mo (by kernel_rfl) ?_) | (refine X.atIndex ?_; refine X.indexS tbl 0 rfl rfl rfl rfl rfl rfl rfl (by omega) ?_) | (refine X.atLoad ?_; refine X.loadA tbl gd rfl rfl rfl rfl hl hb0 id ?_) | (refine X.atGuard ?_; first | refine X.guard_t rfl rfl rfl ?_ | refine X.guard_f rfl rfl rfl ?_ | refine X.guard_pt rfl rfl rfl (by omega) ?_ | refine X.guard_pf rfl rfl rfl (by omega) ?_ | refine X.guard_p rfl rfl rfl (fun hp => ?_) (fun hp => ?_) | refine X.guard rfl rfl rfl (fun hp => ?_) (fun hp => ?_)) | (refine X.atCond ?_; first | refine X.cond_pt rfl (by omega) ?_ | refine X.cond_pf rfl (by omega) ?_ | refine X.cond_p rfl (fun hp => ?_) (fun hp => ?_) | refine X.cond rfl (fun hp => ?_) (fun hp => ?_))))
      all_goals first
        | (refine X.retV rfl ⟨?_, gd.toExt⟩; refine fin _ ?_; rw [hm]; symm; simp [prevOf]; intros; omega)
        | (refine X.round 1 ⟨rfl, rfl, rfl, rfl, trivial⟩ ⟨gd.drop1, by omega, ?_⟩ (by omega); rw [hm]; simp [prevOf]; intros; omega)
    | succ k =>
      have hr' : rs[k]? = some rs[k] := List.getElem?_eq_getElem (by omega)
      generalize rs[k] = r' at hr'
      have hl2 : RdH i3 h0 ⟨b0, off + k * 2 + 1, none⟩ (.int .i64 r'.2) := rd_one rfl (hc k r' hr' 1 _ rfl)
      have hpv : prevOf rs (k + 1) = some r'.2 := by simp [prevOf, hr']
      rw [hpv] at hm
      (repeat' (first | refine X.runP tbl 400 rfl rfl ?_ | (refine X.atCond ?_; first | refine X.cond_t rfl ?_ | refine X.cond_f rfl ?_) | (refine X.atLoad ?_; first | refine X.loadL tbl gd 0 rfl rfl rfl rfl rfl rfl ?_ | refine X.loadL tbl gd 1 rfl rfl rfl rfl rfl rfl ?_ | refine X.loadL tbl gd 2 rfl rfl rfl rfl rfl rfl ?_ | refine X.loadL tbl gd 3 rfl rfl rfl rfl rfl rfl ?_ | refine X.loadL tbl gd 4 rfl rfl rfl rfl rfl rfl ?_) | (refine X.atStore ?_; first | refine X.storeL tbl gd 0 rfl rfl rfl rfl rfl rfl rfl rfl rfl rfl rfl (fun h gd => ?_) | refine X.storeL tbl gd 1 rfl rfl rfl rfl rfl rfl rfl rfl rfl rfl rfl (fun h gd => ?_) | refine X.storeL tbl gd 2 rfl rfl rfl rfl rfl rfl rfl rfl rfl rfl rfl (fun h gd => ?_) | refine X.storeL tbl gd 3 rfl rfl rfl rfl rfl rfl rfl rfl rfl rfl rfl (fun h gd => ?_) | refine X.storeL tbl gd 4 rfl rfl rfl rfl rfl rfl rfl rfl rfl rfl rfl (fun h gd => ?_)) | (refine X.atBox ?_; refine X.box gd rfl rfl rfl rfl (fun b h gd => ?_)) | (refine X.atAlloc ?_; refine X.alloc tbl gd rfl rfl rfl rfl (fun b h gd => ?_)) | (refine X.atBuild ?_; refine X.build tbl rfl rfl rfl rfl rfl rfl ?_) | (refine X.atBuildSlice ?_; refine X.buildSlice tbl gd rfl rfl rfl rfl rfl (by decide) (by decide) rfl (fun b h gd => ?_)) | (refine X.atDraw ?_; refine X.regionQ mo (by kernel_rfl) ?_) | (refine X.atIndex ?_; first | refine X.indexS tbl (k + 1) rfl rfl rfl rfl rfl rfl rfl (by omega) ?_ | refine X.indexS tbl k rfl rfl rfl rfl rfl rfl (by rw [wrap64_id] <;> omega) (by omega) ?_) | (refine X.atLoad ?_; refine X.loadA tbl gd rfl rfl rfl rfl hl hb0 id ?_) | (refine X.atLoad ?_; refine X.loadA tbl gd rfl rfl rfl rfl hl2 hb0 id ?_) | (refine X.atGuard ?_; first | refine X.guard_t rfl rfl rfl ?_ | refine X.guard_f rfl rfl rfl ?_ | refine X.guard_pt rfl rfl rfl (by omega) ?_ | refine X.guard_pf rfl rfl rfl (by omega) ?_ | refine X.guard_p rfl rfl rfl (fun hp => ?_) (fun hp => ?_) | refine X.guard rfl rfl rfl (fun hp => ?_) (fun hp => ?_)) | (refine X.atCond ?_; first | refine X.cond_pt rfl (by omega) ?_ | refine X.cond_pf rfl (by omega) ?_ | refine X.cond_p rfl (fun hp => ?_) (fun hp => ?_) | refine X.cond rfl (fun hp => ?_) (fun hp => ?_))))
      all_goals first
        | (refine X.retV rfl ⟨?_, gd.toExt⟩; refine fin _ ?_; rw [hm]; symm; simp; intros; omega)
        | (refine X.round (k + 2) ⟨?_, rfl, rfl, rfl, trivial⟩ ⟨gd.drop1, by omega, ?_⟩ (by omega); (show some _ = some _; rw [wrap64_id (by omega) (by omega)]; rfl); (rw [hm]; simp; intros; omega))
  · (repeat' (first | refine X.runP tbl 400 rfl rfl ?_ | (refine X.atCond ?_; first | refine X.cond_t rfl ?_ | refine X.cond_f rfl ?_) | (refine X.atLoad ?_; first | refine X.loadL tbl gd 0 rfl rfl rfl rfl rfl rfl ?_ | refine X.loadL tbl gd 1 rfl rfl rfl rfl rfl rfl ?_ | refine X.loadL tbl gd 2 rfl rfl rfl rfl rfl rfl ?_ | refine X.loadL tbl gd 3 rfl rfl rfl rfl rfl rfl ?_ | refine X.loadL tbl gd 4 rfl rfl rfl rfl rfl rfl ?_) | (refine X.atStore ?_; first | refine X.storeL tbl gd 0 rfl rfl rfl rfl rfl rfl rfl rfl rfl rfl rfl (fun h gd => ?_) | refine X.storeL tbl gd 1 rfl rfl rfl rfl rfl rfl rfl rfl rfl rfl rfl (fun h gd => ?_) | refine X.storeL tbl gd 2 rfl rfl rfl rfl rfl rfl rfl rfl rfl rfl rfl (fun h gd => ?_) | refine X.storeL tbl gd 3 rfl rfl rfl rfl rfl rfl rfl rfl rfl rfl rfl (fun h gd => ?_) | refine X.storeL tbl gd 4 rfl rfl rfl rfl rfl rfl rfl rfl rfl rfl rfl (fun h gd => ?_)) | (refine X.atBox ?_; refine X.box gd rfl rfl rfl rfl (fun b h gd => ?_)) | (refine X.atAlloc ?_; refine X.alloc tbl gd rfl rfl rfl rfl (fun b h gd => ?_)) | (refine X.atBuild ?_; refine X.build tbl rfl rfl rfl rfl rfl rfl ?_) | (refine X.atBuildSlice ?_; refine X.buildSlice tbl gd rfl rfl rfl rfl rfl (by decide) (by decide) rfl (fun b h gd => ?_)) | (refine X.atDraw ?_; refine X.regionQ mo (by kernel_rfl) ?_) | (refine X.atGuard ?_; first | refine X.guard_t rfl rfl rfl ?_ | refine X.guard_f rfl rfl rfl ?_ | refine X.guard_pt rfl rfl rfl (by omega) ?_ | refine X.guard_pf rfl rfl rfl (by omega) ?_ | refine X.guard_p rfl rfl rfl (fun hp => ?_) (fun hp => ?_) | refine X.guard rfl rfl rfl (fun hp => ?_) (fun hp => ?_)) | (refine X.atCond ?_; first | refine X.cond_pt rfl (by omega) ?_ | refine X.cond_pf rfl (by omega) ?_ | refine X.cond_p rfl (fun hp => ?_) (fun hp => ?_) | refine X.cond rfl (fun hp => ?_) (fun hp => ?_))))
    refine X.retV rfl ⟨?_, gd.toExt⟩
    rw [hm, List.drop_eq_nil_of_le (by omega)]
    rfl
end Go.Proofs.Ty
