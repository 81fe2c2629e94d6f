/- A part of the proofs of this seat's statements: lemmas and contracts, each with its own premises. -/
import Derived.Test.YtddndccbdglmdaaC2
import Derived.Test.YtddndccbdglmdaaBt
open Go Go.SX
namespace Go.Proofs.Ty
attribute [local irreducible] X
def turnedN (x y s rx ry : Nat) : Nat × Nat := if ry = 1 then (x, y) else if rx = 1 then (s - 1 - y, s - 1 - x) else (y, x)
theorem turned_ct (E : Env) (x y s rx ry : Nat) (h0 : Heap) (hx : x < s) (hy : y < s) (hs : s < 2 ^ 62) :
    Ct Try.prog E 131 #[.int .i64 x, .int .i64 y, .int .i64 s, .int .i64 rx, .int .i64 ry] h0 fun v h' =>
      v = .tuple #[.int .i64 (turnedN x y s rx ry).1, .int .i64 (turnedN x y s rx ry).2] ∧ h' = h0 := by
  refine Ct.enter5 Try.func131 rfl rfl rfl ?_
  have fin : ∀ a b : Int, a = (turnedN x y s rx ry).1 → b = (turnedN x y s rx ry).2 → Value.tuple #[.int .i64 a, .int .i64 b] = Value.tuple #[.int .i64 (turnedN x y s rx ry).1, .int .i64 (turnedN x y s rx ry).2] := by
    rintro a b rfl rfl; rfl
  (repeat' (first | refine X.runP tbl 400 rfl rfl ?_ | (refine X.atCond ?_; first | refine X.cond_t rfl ?_ | refine X.cond_f rfl ?_) | (refine X.atLoad ?_; first | refine X.loadL tbl gd 0 rfl rfl rfl rfl rfl rfl ?_ | refine X.loadL tbl gd 1 rfl rfl rfl rfl rfl rfl ?_ | refine X.loadL tbl gd 2 rfl rfl rfl rfl rfl rfl ?_ | refine X.loadL tbl gd 3 rfl rfl rfl rfl rfl rfl ?_ | refine X.loadL tbl gd 4 rfl rfl rfl rfl rfl rfl ?_) | (refine X.atStore ?_; first | refine X.storeL tbl gd 0 rfl rfl rfl rfl rfl rfl rfl rfl rfl rfl rfl (fun h gd => ?_) | refine X.storeL tbl gd 1 rfl rfl rfl rfl rfl rfl rfl rfl rfl rfl rfl (fun h gd => ?_) | refine X.storeL tbl gd 2 rfl rfl rfl rfl rfl rfl rfl rfl rfl rfl rfl (fun h gd => ?_) | refine X.storeL tbl gd 3 rfl rfl rfl rfl rfl rfl rfl rfl rfl rfl rfl (fun h gd => ?_) | refine X.storeL tbl gd 4 rfl rfl rfl rfl rfl rfl rfl rfl rfl rfl rfl (fun h gd => ?_)) | (refine X.atBox ?_; refine X.box gd rfl rfl rfl rfl (fun b h gd => ?_)) | (refine X.atAlloc ?_; refine X.alloc tbl gd rfl rfl rfl rfl (fun b h gd => ?_)) | (refine X.atBuild ?_; refine X.build tbl rfl rfl rfl rfl rfl rfl ?_) | (refine X.atBuildSlice ?_; refine X.buildSlice tbl gd rfl rfl rfl rfl rfl (by decide) (by decide) rfl (fun b h gd => ?_)) | (refine X.atDraw ?_; refine X.regionQ mo (by kernel_rfl) ?_) | (refine X.atGuard ?_; first | refine X.guard_t rfl rfl rfl ?_ | refine X.guard_f rfl rfl rfl ?_ | refine X.guard_pt rfl rfl rfl (by omega) ?_ | refine X.guard_pf rfl rfl rfl (by omega) ?_ | refine X.guard_p rfl rfl rfl (fun hp => ?_) (fun hp => ?_) | refine X.guard rfl rfl rfl (fun hp => ?_) (fun hp => ?_)) | (refine X.atCond ?_; first | refine X.cond_pt rfl (by omega) ?_ | refine X.cond_pf rfl (by omega) ?_ | refine X.cond_p rfl (fun hp => ?_) (fun hp => ?_) | refine X.cond rfl (fun hp => ?_) (fun hp => ?_))))
  all_goals
    refine X.retV rfl ⟨fin _ _ ?_ ?_, rfl⟩
    all_goals
      try simp only [beq_iff_eq, beq_eq_false_iff_ne, ne_eq] at *
      unfold turnedN
      first
        | (rw [if_pos (by omega)])
        | (rw [if_neg (by omega), if_pos (by omega), wrap64_id (by rw [wrap64_id] <;> omega) (by rw [wrap64_id] <;> omega), wrap64_id (by omega) (by omega)]; simp only; omega)
        | (rw [if_neg (by omega), if_neg (by omega)])
def cellGo : Nat → Nat → Nat → Nat → Nat
  | 0, _, _, d => d
  | k + 1, x, y, d =>
    let s := 2 ^ k
    let rx := x / s % 2
    let ry := y / s % 2
    let p := turnedN (x % s) (y % s) s rx ry
    cellGo k p.1 p.2 (d + s * s * ((3 * rx) ^^^ ry))
def cellN (x y level : Nat) : Nat := cellGo level x y 0
theorem turnedN_lt {x y s rx ry : Nat} (hx : x < s) (hy : y < s) : (turnedN x y s rx ry).1 < s ∧ (turnedN x y s rx ry).2 < s := by
  unfold turnedN
  split
  · exact ⟨hx, hy⟩
  · split
    · exact ⟨by simp only; omega, by simp only; omega⟩
    · exact ⟨hy, hx⟩
theorem cell_ct (E : Env) (x y level : Nat) (h0 : Heap) (hl1 : 1 ≤ level) (hl2 : level ≤ 16) (hx : x < 2 ^ level) (hy : y < 2 ^ level) :
    Ct Try.prog E 90 #[.int .i64 x, .int .i64 y, .int .i64 level] h0 fun v h' =>
      v = .tuple #[.int .i64 (cellN x y level : Nat), .int .i64 0] ∧ h' = h0 := by
  refine Ct.enter3 Try.func90 rfl rfl rfl ?_
  have hpow : 2 ^ level < 2 ^ 62 := Nat.pow_lt_pow_right (by omega) (by omega)
  have hs1 : IntKind.i64.wrap (1 * 2 ^ (min level IntKind.i64.bits)) = ((2 ^ level : Nat) : Int) := shl_one (by omega)
  (repeat' (first | refine X.runP tbl 400 rfl rfl ?_ | (refine X.atCond ?_; first | refine X.cond_t rfl ?_ | refine X.cond_f rfl ?_) | (refine X.atLoad ?_; first | refine X.loadL tbl gd 0 rfl rfl rfl rfl rfl rfl ?_ | refine X.loadL tbl gd 1 rfl rfl rfl rfl rfl rfl ?_ | refine X.loadL tbl gd 2 rfl rfl rfl rfl rfl rfl ?_ | refine X.loadL tbl gd 3 rfl rfl rfl rfl rfl rfl ?_ | refine X.loadL tbl gd 4 rfl rfl rfl rfl rfl rfl ?_) | (refine X.atStore ?_; first | refine X.storeL tbl gd 0 rfl rfl rfl rfl rfl rfl rfl rfl rfl rfl rfl (fun h gd => ?_) | refine X.storeL tbl gd 1 rfl rfl rfl rfl rfl rfl rfl rfl rfl rfl rfl (fun h gd => ?_) | refine X.storeL tbl gd 2 rfl rfl rfl rfl rfl rfl rfl rfl rfl rfl rfl (fun h gd => ?_) | refine X.storeL tbl gd 3 rfl rfl rfl rfl rfl rfl rfl rfl rfl rfl rfl (fun h gd => ?_) | refine X.storeL tbl gd 4 rfl rfl rfl rfl rfl rfl rfl rfl rfl rfl rfl (fun h gd => ?_)) | (refine X.atBox ?_; refine X.box gd rfl rfl rfl rfl (fun b h gd => ?_)) | (refine X.atAlloc ?_; refine X.alloc tbl gd rfl rfl rfl rfl (fun b h gd => ?_)) | (refine X.atBuild ?_; refine X.build tbl rfl rfl rfl rfl rfl rfl ?_) | (refine X.atBuildSlice ?_; refine X.buildSlice tbl gd rfl rfl rfl rfl rfl (by decide) (by decide) rfl (fun b h gd => ?_)) | (refine X.atDraw ?_; refine X.regionQ mo (by kernel_rfl) ?_) | (refine X.shl level rfl rfl rfl rfl rfl ?_) | (refine X.atGuard ?_; first | refine X.guard_t rfl rfl rfl ?_ | refine X.guard_f rfl rfl rfl ?_ | refine X.guard_pt rfl rfl rfl (by omega) ?_ | refine X.guard_pf rfl rfl rfl (by omega) ?_ | refine X.guard_p rfl rfl rfl (fun hp => ?_) (fun hp => ?_) | refine X.guard rfl rfl rfl (fun hp => ?_) (fun hp => ?_)) | (refine X.atCond ?_; first | refine X.cond_pt rfl (by omega) ?_ | refine X.cond_pf rfl (by omega) ?_ | refine X.cond_p rfl (fun hp => ?_) (fun hp => ?_) | refine X.cond rfl (fun hp => ?_) (fun hp => ?_))))
  refine X.loop (S := Nat × Nat × Nat × Nat) (fun s => [(0, .int .i64 s.2.1), (1, .int .i64 s.2.2.1), (8, .int .i64 s.2.2.2), (9, .int .i64 ((s.1 : Int) - 1))])
    (fun s h => h = h0 ∧ s.1 ≤ 16 ∧ s.2.1 < 2 ^ s.1 ∧ s.2.2.1 < 2 ^ s.1 ∧ s.2.2.2 + 2 ^ s.1 * 2 ^ s.1 ≤ 4294967296 ∧ cellN x y level = cellGo s.1 s.2.1 s.2.2.1 s.2.2.2) (fun s => s.1) (level, x, y, 0)
    ⟨rfl, rfl, rfl, (by show some _ = some _; rw [wrap64_id (by omega) (by omega)]), trivial⟩ ⟨rfl, hl2, hx, hy, ?_, rfl⟩ ?_
  · simp only [Nat.zero_add]
    have h16 : 2 ^ level ≤ 2 ^ 16 := Nat.pow_le_pow_right (by omega) hl2
    calc 2 ^ level * 2 ^ level ≤ 2 ^ 16 * 2 ^ 16 := Nat.mul_le_mul h16 h16
      _ = 4294967296 := by decide
  rintro ⟨k, x1, y1, d⟩ h ⟨rfl, hk, hx1, hy1, hd, hc⟩
  simp only at hk hx1 hy1 hd hc ⊢
  cases k with
  | zero =>
    (repeat' (first | refine X.runP tbl 400 rfl rfl ?_ | (refine X.atCond ?_; first | refine X.cond_t rfl ?_ | refine X.cond_f rfl ?_) | (refine X.atLoad ?_; first | refine X.loadL tbl gd 0 rfl rfl rfl rfl rfl rfl ?_ | refine X.loadL tbl gd 1 rfl rfl rfl rfl rfl rfl ?_ | refine X.loadL tbl gd 2 rfl rfl rfl rfl rfl rfl ?_ | refine X.loadL tbl gd 3 rfl rfl rfl rfl rfl rfl ?_ | refine X.loadL tbl gd 4 rfl rfl rfl rfl rfl rfl ?_) | (refine X.atStore ?_; first | refine X.storeL tbl gd 0 rfl rfl rfl rfl rfl rfl rfl rfl rfl rfl rfl (fun h gd => ?_) | refine X.storeL tbl gd 1 rfl rfl rfl rfl rfl rfl rfl rfl rfl rfl rfl (fun h gd => ?_) | refine X.storeL tbl gd 2 rfl rfl rfl rfl rfl rfl rfl rfl rfl rfl rfl (fun h gd => ?_) | refine X.storeL tbl gd 3 rfl rfl rfl rfl rfl rfl rfl rfl rfl rfl rfl (fun h gd => ?_) | refine X.storeL tbl gd 4 rfl rfl rfl rfl rfl rfl rfl rfl rfl rfl rfl (fun h gd => ?_)) | (refine X.atBox ?_; refine X.box gd rfl rfl rfl rfl (fun b h gd => ?_)) | (refine X.atAlloc ?_; refine X.alloc tbl gd rfl rfl rfl rfl (fun b h gd => ?_)) | (refine X.atBuild ?_; refine X.build tbl rfl rfl rfl rfl rfl rfl ?_) | (refine X.atBuildSlice ?_; refine X.buildSlice tbl gd rfl rfl rfl rfl rfl (by decide) (by decide) rfl (fun b h gd => ?_)) | (refine X.atDraw ?_; refine X.regionQ mo (by kernel_rfl) ?_) | (refine X.atGuard ?_; first | refine X.guard_t rfl rfl rfl ?_ | refine X.guard_f rfl rfl rfl ?_ | refine X.guard_pt rfl rfl rfl (by omega) ?_ | refine X.guard_pf rfl rfl rfl (by omega) ?_ | refine X.guard_p rfl rfl rfl (fun hp => ?_) (fun hp => ?_) | refine X.guard rfl rfl rfl (fun hp => ?_) (fun hp => ?_)) | (refine X.atCond ?_; first | refine X.cond_pt rfl (by omega) ?_ | refine X.cond_pf rfl (by omega) ?_ | refine X.cond_p rfl (fun hp => ?_) (fun hp => ?_) | refine X.cond rfl (fun hp => ?_) (fun hp => ?_))))
    refine X.retV rfl ⟨?_, rfl⟩
    rw [hc]
    rfl
  | succ m =>
    have hm : 2 ^ m < 2 ^ 17 := Nat.pow_lt_pow_right (by omega) (by omega)
    have hp2 : 2 ^ (m + 1) = 2 * 2 ^ m := by rw [Nat.pow_succ]; omega
    refine X.runP tbl 400 rfl rfl ?_
    refine X.cond_pt rfl (by omega) ?_
    refine X.runP tbl 400 rfl rfl ?_
    refine X.regionQ mo (by kernel_rfl) ?_
    refine X.runP tbl 400 rfl rfl ?_
    refine X.shr m rfl rfl rfl rfl (by omega) ?_
    refine X.runP tbl 400 rfl rfl ?_
    refine X.shr m rfl rfl rfl rfl (by omega) ?_
    refine X.runP tbl 400 rfl rfl ?_
    refine X.shl m rfl rfl rfl rfl (by omega) ?_
    refine X.run tbl 4 rfl ?_
    have hpos : 0 < 2 ^ m := Nat.pow_pos (by omega)
    have hq : x1 / 2 ^ m < 2 := by rw [Nat.div_lt_iff_lt_mul hpos]; omega
    have hq' : y1 / 2 ^ m < 2 := by rw [Nat.div_lt_iff_lt_mul hpos]; omega
    refine X.weak (fr' := [(0, .int .i64 x1), (1, .int .i64 y1), (8, .int .i64 d), (9, .int .i64 ((m : Int))), (10, .int .i64 ((x1 / 2 ^ m % 2 : Nat) : Int)), (11, .int .i64 ((y1 / 2 ^ m % 2 : Nat) : Int)), (12, .int .i64 ((2 ^ m : Nat) : Int))])
      ⟨rfl, rfl, rfl, ?_, ?_, ?_, ?_, trivial⟩ ?_
    · show some _ = some _
      congr 2; omega
    · show some _ = some _
      rw [shr_nat (by omega), and_one_nat (by omega)]
    · show some _ = some _
      rw [shr_nat (by omega), and_one_nat (by omega)]
    · show some _ = some _
      rw [shl_one (by omega)]
    have hA : ∀ a : Nat, a < 2 ^ 63 → bitsOp .and .i64 (a : Int) (IntKind.i64.wrap (((2 ^ m : Nat) : Int) - 1)) = ((a % 2 ^ m : Nat) : Int) := by
      intro a ha
      rw [← and_mask_nat ha (show m < 63 by omega)]
      congr 1
      rw [wrap64_id] <;> omega
    have hrx2 : x1 / 2 ^ m % 2 < 2 := Nat.mod_lt _ (by omega)
    have hry2 : y1 / 2 ^ m % 2 < 2 := Nat.mod_lt _ (by omega)
    have hcg : cellN x y level = cellGo m (turnedN (x1 % 2 ^ m) (y1 % 2 ^ m) (2 ^ m) (x1 / 2 ^ m % 2) (y1 / 2 ^ m % 2)).1 (turnedN (x1 % 2 ^ m) (y1 % 2 ^ m) (2 ^ m) (x1 / 2 ^ m % 2) (y1 / 2 ^ m % 2)).2
      (d + 2 ^ m * 2 ^ m * ((3 * (x1 / 2 ^ m % 2)) ^^^ (y1 / 2 ^ m % 2))) := hc
    rw [hp2] at hd
    generalize hrx : x1 / 2 ^ m % 2 = rx at *
    generalize hry : y1 / 2 ^ m % 2 = ry at *
    generalize hs : 2 ^ m = s at *
    (repeat' (first | refine X.runP tbl 400 rfl rfl ?_ | (refine X.atCond ?_; first | refine X.cond_t rfl ?_ | refine X.cond_f rfl ?_) | (refine X.atLoad ?_; first | refine X.loadL tbl gd 0 rfl rfl rfl rfl rfl rfl ?_ | refine X.loadL tbl gd 1 rfl rfl rfl rfl rfl rfl ?_ | refine X.loadL tbl gd 2 rfl rfl rfl rfl rfl rfl ?_ | refine X.loadL tbl gd 3 rfl rfl rfl rfl rfl rfl ?_ | refine X.loadL tbl gd 4 rfl rfl rfl rfl rfl rfl ?_) | (refine X.atStore ?_; first | refine X.storeL tbl gd 0 rfl rfl rfl rfl rfl rfl rfl rfl rfl rfl rfl (fun h gd => ?_) | refine X.storeL tbl gd 1 rfl rfl rfl rfl rfl rfl rfl rfl rfl rfl rfl (fun h gd => ?_) | refine X.storeL tbl gd 2 rfl rfl rfl rfl rfl rfl rfl rfl rfl rfl rfl (fun h gd => ?_) | refine X.storeL tbl gd 3 rfl rfl rfl rfl rfl rfl rfl rfl rfl rfl rfl (fun h gd => ?_) | refine X.storeL tbl gd 4 rfl rfl rfl rfl rfl rfl rfl rfl rfl rfl rfl (fun h gd => ?_)) | (refine X.atBox ?_; refine X.box gd rfl rfl rfl rfl (fun b h gd => ?_)) | (refine X.atAlloc ?_; refine X.alloc tbl gd rfl rfl rfl rfl (fun b h gd => ?_)) | (refine X.atBuild ?_; refine X.build tbl rfl rfl rfl rfl rfl rfl ?_) | (refine X.atBuildSlice ?_; refine X.buildSlice tbl gd rfl rfl rfl rfl rfl (by decide) (by decide) rfl (fun b h gd => ?_)) | (refine X.atDraw ?_; refine X.regionQ mo (by kernel_rfl) ?_) | (refine X.atCall 131 ?_; refine X.call call131 rfl rfl (show _ = some [.int .i64 ((x1 % s : Nat) : Int), .int .i64 ((y1 % s : Nat) : Int), .int .i64 (s : Int), .int .i64 (rx : Int), .int .i64 (ry : Int)] from ?_) ((turned_ct E (x1 % s) (y1 % s) s rx ry _ (Nat.mod_lt _ hpos) (Nat.mod_lt _ hpos) (by omega)).mono ?_); rotate_left; rintro _ _ ⟨rfl, rfl⟩) | (refine X.atGuard ?_; first | refine X.guard_t rfl rfl rfl ?_ | refine X.guard_f rfl rfl rfl ?_ | refine X.guard_pt rfl rfl rfl (by omega) ?_ | refine X.guard_pf rfl rfl rfl (by omega) ?_ | refine X.guard_p rfl rfl rfl (fun hp => ?_) (fun hp => ?_) | refine X.guard rfl rfl rfl (fun hp => ?_) (fun hp => ?_)) | (refine X.atCond ?_; first | refine X.cond_pt rfl (by omega) ?_ | refine X.cond_pf rfl (by omega) ?_ | refine X.cond_p rfl (fun hp => ?_) (fun hp => ?_) | refine X.cond rfl (fun hp => ?_) (fun hp => ?_))))
    · have hx4 : (3 * rx) ^^^ ry < 4 := Nat.xor_lt_two_pow (n := 2) (by omega) (by omega)
      have hss : s * s ≤ 1073741824 := by
        have : 2 * s * (2 * s) = 4 * (s * s) := by rw [Nat.mul_mul_mul_comm]
        omega
      have hss2 : (s : Int) * (s : Int) = ((s * s : Nat) : Int) := by simp
      have hb : s * s * ((3 * rx) ^^^ ry) ≤ s * s * 3 := Nat.mul_le_mul_left _ (by omega)
      have e3 : IntKind.i64.wrap (3 * (rx : Int)) = ((3 * rx : Nat) : Int) := by rw [wrap64_id (by omega) (by omega)]; omega
      have h4 : 2 * s * (2 * s) = 4 * (s * s) := by rw [Nat.mul_mul_mul_comm]
      refine X.round (m, (turnedN (x1 % s) (y1 % s) s rx ry).1, (turnedN (x1 % s) (y1 % s) s rx ry).2, d + s * s * ((3 * rx) ^^^ ry)) ⟨rfl, rfl, ?_, ?_, trivial⟩ ⟨rfl, by omega, ?_, ?_, ?_, hcg⟩ (Nat.lt_succ_self m)
      · show some _ = some _
        rw [e3, xor_nat (by omega) (by omega), hss2, wrap_nat (by omega)]
        rw [show ((s * s : Nat) : Int) * (((3 * rx) ^^^ ry : Nat) : Int) = ((s * s * ((3 * rx) ^^^ ry) : Nat) : Int) from by simp, wrap_nat (by omega)]
        rw [show (d : Int) + ((s * s * ((3 * rx) ^^^ ry) : Nat) : Int) = ((d + s * s * ((3 * rx) ^^^ ry) : Nat) : Int) from by simp, wrap_nat (by omega)]
      · show some _ = some _
        rw [wrap64_id (by omega) (by omega)]
      · rw [hs]; exact (turnedN_lt (Nat.mod_lt _ hpos) (Nat.mod_lt _ hpos)).1
      · rw [hs]; exact (turnedN_lt (Nat.mod_lt _ hpos) (Nat.mod_lt _ hpos)).2
      · rw [hs]
        simp only
        omega
    · show some _ = some _
      rw [hA x1 (by omega), hA y1 (by omega)]
end Go.Proofs.Ty
