/- A part of the proofs of this seat's statements: lemmas and contracts, each with its own premises. -/
import Derived.Test.YtddndccbdglmdaaSo
open Go Go.SX
namespace Go.SX
theorem GoodH.comb {H0 h h' : Heap} {M : Nat → Prop} {L R : List (Nat × Obj)} (gd : GoodH H0 M L h) (gr : GoodH h NoM R h') : GoodH H0 M (R ++ L) h' := by
  have gx := gd.ext gr.toExt
  have hnew : ∀ p ∈ R, h.size ≤ p.1 := fun p hp => (gr.new p hp).resolve_right id
  refine ⟨gx.size, gx.old, ?_, ?_, ?_⟩
  · rw [List.map_append, List.nodup_append]
    refine ⟨gr.nd, gd.nd, ?_⟩
    intro a ha b hb e
    obtain ⟨p, hp, rfl⟩ := List.mem_map.1 ha
    obtain ⟨q, hq, rfl⟩ := List.mem_map.1 hb
    have h1 := hnew p hp
    have h2 := gd.lt q hq
    omega
  · intro p hp
    rcases List.mem_append.1 hp with hp | hp
    · exact gr.own p hp
    · exact gx.own p hp
  · intro p hp
    rcases List.mem_append.1 hp with hp | hp
    · exact .inl (Nat.le_trans gd.size (hnew p hp))
    · exact gd.new p hp
end Go.SX
namespace Go.SX
theorem RowT.one {e : TypeId} {v : Value} {xs : List Int} {R : List (Nat × Obj)} (hR : RowT encInt e 1 v xs R) (hne : xs ≠ []) :
    ∃ b cap cur, v = .slice (some ⟨b, 0, none⟩) xs.length cap ∧ R = [(b, .cells cur e (0, 0))] ∧ ∀ (i : Nat) (x : Int), xs[i]? = some x → cur[i]? = some (.int .i64 x) := by
  unfold RowT at hR
  rw [map_flat] at hR
  generalize hn : xs.length = n at hR
  generalize hf : xs.map (Value.int .i64) = f at hR
  cases hR with
  | nil => exact absurd (List.eq_nil_of_length_eq_zero hn) hne
  | one b cap cur _ _ h1 h2 h3 h4 =>
    refine ⟨b, cap, cur, rfl, rfl, fun i x hi => ?_⟩
    have hlt := (List.getElem?_eq_some_iff.1 hi).1
    have : f[i]? = some (.int .i64 x) := by rw [← hf]; simp [hi]
    rw [← h4, Nat.mul_one, List.getElem?_take_of_lt (by omega)] at this
    simpa using this
end Go.SX
namespace Go.Proofs.Ty
attribute [local irreducible] X
def row1 (x b0 m : Nat) : List Int := (List.range m).map fun j => ((cellN x (b0 + j) 6 : Nat) : Int)
def cellsL (a0 b0 n m : Nat) : List Int := (List.range n).flatMap fun i => row1 (a0 + i) b0 m
theorem row1_succ (x b0 m : Nat) : row1 x b0 (m + 1) = row1 x b0 m ++ [((cellN x (b0 + m) 6 : Nat) : Int)] := by
  simp [row1, List.range_succ]
theorem cellsL_succ (a0 b0 n m : Nat) : cellsL a0 b0 (n + 1) m = cellsL a0 b0 n m ++ row1 (a0 + n) b0 m := by
  simp [cellsL, List.range_succ, List.flatMap_append]
theorem row1_len (x b0 m : Nat) : (row1 x b0 m).length = m := by simp [row1]
theorem cellsL_len (a0 b0 n m : Nat) : (cellsL a0 b0 n m).length = n * m := by
  induction n with
  | zero => simp [cellsL]
  | succ n ih => rw [cellsL_succ, List.length_append, ih, row1_len, Nat.succ_mul]
theorem cellGo_lt (k : Nat) : ∀ (x y d : Nat), x < 2 ^ k → y < 2 ^ k → cellGo k x y d < d + 2 ^ k * 2 ^ k := by
  induction k with
  | zero => intro x y d _ _; simp [cellGo]
  | succ k ih =>
    intro x y d hx hy
    have hpos : 0 < 2 ^ k := Nat.pow_pos (by omega)
    have ht := turnedN_lt (x := x % 2 ^ k) (y := y % 2 ^ k) (s := 2 ^ k) (rx := x / 2 ^ k % 2) (ry := y / 2 ^ k % 2) (Nat.mod_lt _ hpos) (Nat.mod_lt _ hpos)
    have h1 := ih _ _ (d + 2 ^ k * 2 ^ k * ((3 * (x / 2 ^ k % 2)) ^^^ (y / 2 ^ k % 2))) ht.1 ht.2
    have hrx : x / 2 ^ k % 2 < 2 := Nat.mod_lt _ (by omega)
    have hry : y / 2 ^ k % 2 < 2 := Nat.mod_lt _ (by omega)
    have hx4 : (3 * (x / 2 ^ k % 2)) ^^^ (y / 2 ^ k % 2) < 4 := Nat.xor_lt_two_pow (n := 2) (by omega) (by omega)
    have hb : 2 ^ k * 2 ^ k * ((3 * (x / 2 ^ k % 2)) ^^^ (y / 2 ^ k % 2)) ≤ 2 ^ k * 2 ^ k * 3 := Nat.mul_le_mul_left _ (by omega)
    have h4 : 2 ^ (k + 1) * 2 ^ (k + 1) = 4 * (2 ^ k * 2 ^ k) := by
      rw [Nat.pow_succ, Nat.mul_comm (2 ^ k) 2, Nat.mul_mul_mul_comm]
    rw [h4]
    exact Nat.lt_of_lt_of_le h1 (by omega)
theorem cellN_lt {x y k : Nat} (hx : x < 2 ^ k) (hy : y < 2 ^ k) : cellN x y k < 2 ^ k * 2 ^ k := by
  have := cellGo_lt k x y 0 hx hy
  simpa [cellN] using this
theorem cellsL_bd {a0 b0 n m : Nat} (hn : a0 + n ≤ 64) (hm : b0 + m ≤ 64) : ∀ z ∈ cellsL a0 b0 n m, 0 ≤ z ∧ z < 4096 := by
  intro z hz
  simp only [cellsL, row1, List.mem_flatMap, List.mem_map, List.mem_range] at hz
  obtain ⟨i, hi, j, hj, rfl⟩ := hz
  have := cellN_lt (x := a0 + i) (y := b0 + j) (k := 6) (by omega) (by omega)
  omega
def ofR (zs : List Int) : List (Int × Int) := zs.foldl (fun rs d => addL rs (d * 1048576, (d + 1) * 1048576)) []
theorem addL_len (rs : List (Int × Int)) (r : Int × Int) : (addL rs r).length ≤ rs.length + 1 := by
  unfold addL
  split
  · split <;> simp
  · simp
theorem ofR_snoc (zs : List Int) (d : Int) : ofR (zs ++ [d]) = addL (ofR zs) (d * 1048576, (d + 1) * 1048576) := by simp [ofR]
theorem ofR_take {zs : List Int} {i : Nat} {d : Int} (h : zs[i]? = some d) : ofR (zs.take (i + 1)) = addL (ofR (zs.take i)) (d * 1048576, (d + 1) * 1048576) := by
  rw [← ofR_snoc]
  congr 1
  have hi : i < zs.length := (List.getElem?_eq_some_iff.1 h).1
  rw [List.take_succ_eq_append_getElem hi, (List.getElem?_eq_some_iff.1 h).2]
theorem ofR_len (zs : List Int) (i : Nat) : (ofR (zs.take i)).length ≤ i := by
  induction i with
  | zero => simp [ofR]
  | succ i ih =>
    by_cases hi : i < zs.length
    · rw [ofR_take (List.getElem?_eq_getElem hi)]
      have := addL_len (ofR (zs.take i)) (zs[i] * 1048576, (zs[i] + 1) * 1048576)
      omega
    · rw [List.take_of_length_le (by omega)]
      rw [List.take_of_length_le (by omega)] at ih
      omega
def Bx.nat (x0 y0 x1 y1 : Nat) : Bx := ⟨x0, y0, x1, y1⟩
/-- A box's stretches. -/
def ofB (x0 y0 x1 y1 : Nat) : List (Int × Int) :=
  ofR ((cellsL (x0 / 2 ^ 26) (y0 / 2 ^ 26) (x1 / 2 ^ 26 + 1 - x0 / 2 ^ 26) (y1 / 2 ^ 26 + 1 - y0 / 2 ^ 26)).mergeSort fun x y => decide (x ≤ y))
theorem of_none (E : Env) (bx : Bx) (h0 : Heap) (hb : bx.may = false) : Ct Try.prog E 39 #[bx.v] h0 fun v h' => v = .tuple #[.slice none 0 0, .int .i64 600] ∧ Ext h0 h' := by
  refine Ct.enter1 Try.func39 rfl rfl rfl ?_
  have gd := GoodH.refl h0 NoM
  (repeat' (first | refine X.runP tbl 400 rfl rfl ?_ | (refine X.atCond ?_; first | refine X.cond_t rfl ?_ | refine X.cond_f rfl ?_) | (refine X.atLoad ?_; first | refine X.loadL tbl gd 0 rfl rfl rfl rfl rfl rfl ?_ | refine X.loadL tbl gd 1 rfl rfl rfl rfl rfl rfl ?_ | refine X.loadL tbl gd 2 rfl rfl rfl rfl rfl rfl ?_ | refine X.loadL tbl gd 3 rfl rfl rfl rfl rfl rfl ?_ | refine X.loadL tbl gd 4 rfl rfl rfl rfl rfl rfl ?_) | (refine X.atStore ?_; first | refine X.storeL tbl gd 0 rfl rfl rfl rfl rfl rfl rfl rfl rfl rfl rfl (fun h gd => ?_) | refine X.storeL tbl gd 1 rfl rfl rfl rfl rfl rfl rfl rfl rfl rfl rfl (fun h gd => ?_) | refine X.storeL tbl gd 2 rfl rfl rfl rfl rfl rfl rfl rfl rfl rfl rfl (fun h gd => ?_) | refine X.storeL tbl gd 3 rfl rfl rfl rfl rfl rfl rfl rfl rfl rfl rfl (fun h gd => ?_) | refine X.storeL tbl gd 4 rfl rfl rfl rfl rfl rfl rfl rfl rfl rfl rfl (fun h gd => ?_)) | (refine X.atBox ?_; refine X.box gd rfl rfl rfl rfl (fun b h gd => ?_)) | (refine X.atAlloc ?_; refine X.alloc tbl gd rfl rfl rfl rfl (fun b h gd => ?_)) | (refine X.atBuild ?_; refine X.build tbl rfl rfl rfl rfl rfl rfl ?_) | (refine X.atBuildSlice ?_; refine X.buildSlice tbl gd rfl rfl rfl rfl rfl (by decide) (by decide) rfl (fun b h gd => ?_)) | (refine X.atDraw ?_; refine X.regionQ mo (by kernel_rfl) ?_) | (refine X.atCall 89 ?_; refine X.call call89 rfl rfl rfl ((boxMay_ct E bx _).mono ?_); rintro _ h ⟨rfl, hx⟩; have gd := gd.ext hx; rw [hb]) | (refine X.atGuard ?_; first | refine X.guard_t rfl rfl rfl ?_ | refine X.guard_f rfl rfl rfl ?_ | refine X.guard_pt rfl rfl rfl (by omega) ?_ | refine X.guard_pf rfl rfl rfl (by omega) ?_ | refine X.guard_p rfl rfl rfl (fun hp => ?_) (fun hp => ?_) | refine X.guard rfl rfl rfl (fun hp => ?_) (fun hp => ?_)) | (refine X.atCond ?_; first | refine X.cond_pt rfl (by omega) ?_ | refine X.cond_pf rfl (by omega) ?_ | refine X.cond_p rfl (fun hp => ?_) (fun hp => ?_) | refine X.cond rfl (fun hp => ?_) (fun hp => ?_))))
  exact X.retV rfl ⟨rfl, gd.toExt⟩
theorem of_ct (E : Env) (x0 y0 x1 y1 : Nat) (h0 : Heap) (hx : x0 ≤ x1) (hy : y0 ≤ y1) (hx1 : x1 ≤ 4294967295) (hy1 : y1 ≤ 4294967295) :
    Ct Try.prog E 39 #[(Bx.nat x0 y0 x1 y1).v] h0 fun v h' => ∃ u R, v = .tuple #[u, .int .i64 0] ∧ RowT encRange 24 2 u (ofB x0 y0 x1 y1) R ∧ GoodH h0 NoM R h' := by
  refine Ct.enter1 Try.func39 rfl rfl rfl ?_
  have gd := GoodH.refl h0 NoM
  have hmay : (Bx.nat x0 y0 x1 y1).may = true := by
    show (coordB x0 && coordB y0 && coordB x1 && coordB y1 && decide ((x0 : Int) ≤ x1) && decide ((y0 : Int) ≤ y1)) = true
    simp only [coordB, Bool.and_eq_true, decide_eq_true_eq]; omega
  have ex0 := shr_nat (a := x0) (k := 26) (by omega)
  have ex1 := shr_nat (a := x1) (k := 26) (by omega)
  have ey0 := shr_nat (a := y0) (k := 26) (by omega)
  have ey1 := shr_nat (a := y1) (k := 26) (by omega)
  have hq1 : x0 / 2 ^ 26 ≤ x1 / 2 ^ 26 := Nat.div_le_div_right hx
  have hq2 : y0 / 2 ^ 26 ≤ y1 / 2 ^ 26 := Nat.div_le_div_right hy
  have hq3 : x1 / 2 ^ 26 < 64 := by omega
  have hq4 : y1 / 2 ^ 26 < 64 := by omega
  unfold ofB
  generalize x0 / 2 ^ 26 = a0 at *
  generalize x1 / 2 ^ 26 = a1 at *
  generalize y0 / 2 ^ 26 = b0 at *
  generalize y1 / 2 ^ 26 = b1 at *
  (repeat' (first | refine X.runP tbl 400 rfl rfl ?_ | (refine X.atCond ?_; first | refine X.cond_t rfl ?_ | refine X.cond_f rfl ?_) | (refine X.atLoad ?_; first | refine X.loadL tbl gd 0 rfl rfl rfl rfl rfl rfl ?_ | refine X.loadL tbl gd 1 rfl rfl rfl rfl rfl rfl ?_ | refine X.loadL tbl gd 2 rfl rfl rfl rfl rfl rfl ?_ | refine X.loadL tbl gd 3 rfl rfl rfl rfl rfl rfl ?_ | refine X.loadL tbl gd 4 rfl rfl rfl rfl rfl rfl ?_) | (refine X.atStore ?_; first | refine X.storeL tbl gd 0 rfl rfl rfl rfl rfl rfl rfl rfl rfl rfl rfl (fun h gd => ?_) | refine X.storeL tbl gd 1 rfl rfl rfl rfl rfl rfl rfl rfl rfl rfl rfl (fun h gd => ?_) | refine X.storeL tbl gd 2 rfl rfl rfl rfl rfl rfl rfl rfl rfl rfl rfl (fun h gd => ?_) | refine X.storeL tbl gd 3 rfl rfl rfl rfl rfl rfl rfl rfl rfl rfl rfl (fun h gd => ?_) | refine X.storeL tbl gd 4 rfl rfl rfl rfl rfl rfl rfl rfl rfl rfl rfl (fun h gd => ?_)) | (refine X.atBox ?_; refine X.box gd rfl rfl rfl rfl (fun b h gd => ?_)) | (refine X.atAlloc ?_; refine X.alloc tbl gd rfl rfl rfl rfl (fun b h gd => ?_)) | (refine X.atBuild ?_; refine X.build tbl rfl rfl rfl rfl rfl rfl ?_) | (refine X.atBuildSlice ?_; refine X.buildSlice tbl gd rfl rfl rfl rfl rfl (by decide) (by decide) rfl (fun b h gd => ?_)) | (refine X.atDraw ?_; refine X.regionQ mo (by kernel_rfl) ?_) | (refine X.atCall 89 ?_; refine X.call call89 rfl rfl rfl ((boxMay_ct E (Bx.nat x0 y0 x1 y1) _).mono ?_); rintro _ h ⟨rfl, hx⟩; have gd := gd.ext hx; rw [hmay]) | (refine X.atGuard ?_; first | refine X.guard_t rfl rfl rfl ?_ | refine X.guard_f rfl rfl rfl ?_ | refine X.guard_pt rfl rfl rfl (by omega) ?_ | refine X.guard_pf rfl rfl rfl (by omega) ?_ | refine X.guard_p rfl rfl rfl (fun hp => ?_) (fun hp => ?_) | refine X.guard rfl rfl rfl (fun hp => ?_) (fun hp => ?_)) | (refine X.atCond ?_; first | refine X.cond_pt rfl (by omega) ?_ | refine X.cond_pf rfl (by omega) ?_ | refine X.cond_p rfl (fun hp => ?_) (fun hp => ?_) | refine X.cond rfl (fun hp => ?_) (fun hp => ?_))))
  refine X.loop (S := Nat × Value × List (Nat × Obj)) (fun s => [(1, .pointer (some ⟨b, 0, none⟩)), (4, s.2.1), (5, .int .i64 ((a0 + s.1 : Nat) : Int))])
    (fun s h => GoodH h0 NoM ((b, .cells #[.int .i64 x0, .int .i64 y0, .int .i64 x1, .int .i64 y1] 65 (0, 0)) :: s.2.2) h ∧ RowT encInt 3 1 s.2.1 (cellsL a0 b0 s.1 (b1 + 1 - b0)) s.2.2 ∧ s.1 ≤ a1 + 1 - a0)
    (fun s => a1 + 1 - a0 - s.1) (0, .slice none 0 0, []) ⟨rfl, rfl, ?_, trivial⟩ ⟨gd, RowT.nil _ _ _, by simp⟩ ?_
  · show some _ = some _
    rw [show (Bx.nat x0 y0 x1 y1).x0 = (x0 : Int) from rfl, ex0]
    rfl
  rintro ⟨i, v, R⟩ h ⟨gd, hR, hi⟩
  simp only at gd hR hi ⊢
  by_cases hlt : i < a1 + 1 - a0
  · have hm : b1 + 1 - b0 ≤ 64 := by omega
    generalize hmm : b1 + 1 - b0 = m at *
    (repeat' (first | refine X.runP tbl 400 rfl rfl ?_ | (refine X.atCond ?_; first | refine X.cond_t rfl ?_ | refine X.cond_f rfl ?_) | (refine X.atLoad ?_; first | refine X.loadL tbl gd 0 rfl rfl rfl rfl rfl rfl ?_ | refine X.loadL tbl gd 1 rfl rfl rfl rfl rfl rfl ?_ | refine X.loadL tbl gd 2 rfl rfl rfl rfl rfl rfl ?_ | refine X.loadL tbl gd 3 rfl rfl rfl rfl rfl rfl ?_ | refine X.loadL tbl gd 4 rfl rfl rfl rfl rfl rfl ?_) | (refine X.atStore ?_; first | refine X.storeL tbl gd 0 rfl rfl rfl rfl rfl rfl rfl rfl rfl rfl rfl (fun h gd => ?_) | refine X.storeL tbl gd 1 rfl rfl rfl rfl rfl rfl rfl rfl rfl rfl rfl (fun h gd => ?_) | refine X.storeL tbl gd 2 rfl rfl rfl rfl rfl rfl rfl rfl rfl rfl rfl (fun h gd => ?_) | refine X.storeL tbl gd 3 rfl rfl rfl rfl rfl rfl rfl rfl rfl rfl rfl (fun h gd => ?_) | refine X.storeL tbl gd 4 rfl rfl rfl rfl rfl rfl rfl rfl rfl rfl rfl (fun h gd => ?_)) | (refine X.atBox ?_; refine X.box gd rfl rfl rfl rfl (fun b h gd => ?_)) | (refine X.atAlloc ?_; refine X.alloc tbl gd rfl rfl rfl rfl (fun b h gd => ?_)) | (refine X.atBuild ?_; refine X.build tbl rfl rfl rfl rfl rfl rfl ?_) | (refine X.atBuildSlice ?_; refine X.buildSlice tbl gd rfl rfl rfl rfl rfl (by decide) (by decide) rfl (fun b h gd => ?_)) | (refine X.atDraw ?_; refine X.regionQ mo (by kernel_rfl) ?_) | (refine X.atCond ?_; refine X.cond_pt rfl (by show _ ≤ (x1 : Int).fdiv _; rw [ex1]; omega) ?_) | (refine X.atGuard ?_; first | refine X.guard_t rfl rfl rfl ?_ | refine X.guard_f rfl rfl rfl ?_ | refine X.guard_pt rfl rfl rfl (by omega) ?_ | refine X.guard_pf rfl rfl rfl (by omega) ?_ | refine X.guard_p rfl rfl rfl (fun hp => ?_) (fun hp => ?_) | refine X.guard rfl rfl rfl (fun hp => ?_) (fun hp => ?_)) | (refine X.atCond ?_; first | refine X.cond_pt rfl (by omega) ?_ | refine X.cond_pf rfl (by omega) ?_ | refine X.cond_p rfl (fun hp => ?_) (fun hp => ?_) | refine X.cond rfl (fun hp => ?_) (fun hp => ?_))))
    refine X.loop (S := Nat × Value × List (Nat × Obj)) (fun s => [(1, .pointer (some ⟨b, 0, none⟩)), (4, s.2.1), (5, .int .i64 ((a0 + i : Nat) : Int)), (6, .int .i64 ((b0 + s.1 : Nat) : Int))])
      (fun s h => GoodH h0 NoM ((b, .cells #[.int .i64 x0, .int .i64 y0, .int .i64 x1, .int .i64 y1] 65 (0, 0)) :: s.2.2) h ∧ RowT encInt 3 1 s.2.1 (cellsL a0 b0 i m ++ row1 (a0 + i) b0 s.1) s.2.2 ∧ s.1 ≤ m)
      (fun s => m - s.1) (0, v, R) ⟨rfl, rfl, rfl, ?_, trivial⟩ ⟨gd, by simpa [row1] using hR, by simp⟩ ?_
    · show some _ = some _
      rw [ey0]
      rfl
    rintro ⟨j, v, R⟩ h ⟨gd, hR, hj⟩
    simp only at gd hR hj ⊢
    by_cases hltj : j < m
    · have hcl : (cellsL a0 b0 i m ++ row1 (a0 + i) b0 j).length ≤ 8192 := by
        rw [List.length_append, cellsL_len, row1_len]
        have : i * m ≤ 64 * 64 := Nat.mul_le_mul (by omega) (by omega)
        omega
      have hR2 := hR
      unfold RowT at hR2
      (repeat' (first | refine X.runP tbl 400 rfl rfl ?_ | (refine X.atCond ?_; first | refine X.cond_t rfl ?_ | refine X.cond_f rfl ?_) | (refine X.atLoad ?_; first | refine X.loadL tbl gd 0 rfl rfl rfl rfl rfl rfl ?_ | refine X.loadL tbl gd 1 rfl rfl rfl rfl rfl rfl ?_ | refine X.loadL tbl gd 2 rfl rfl rfl rfl rfl rfl ?_ | refine X.loadL tbl gd 3 rfl rfl rfl rfl rfl rfl ?_ | refine X.loadL tbl gd 4 rfl rfl rfl rfl rfl rfl ?_) | (refine X.atStore ?_; first | refine X.storeL tbl gd 0 rfl rfl rfl rfl rfl rfl rfl rfl rfl rfl rfl (fun h gd => ?_) | refine X.storeL tbl gd 1 rfl rfl rfl rfl rfl rfl rfl rfl rfl rfl rfl (fun h gd => ?_) | refine X.storeL tbl gd 2 rfl rfl rfl rfl rfl rfl rfl rfl rfl rfl rfl (fun h gd => ?_) | refine X.storeL tbl gd 3 rfl rfl rfl rfl rfl rfl rfl rfl rfl rfl rfl (fun h gd => ?_) | refine X.storeL tbl gd 4 rfl rfl rfl rfl rfl rfl rfl rfl rfl rfl rfl (fun h gd => ?_)) | (refine X.atBox ?_; refine X.box gd rfl rfl rfl rfl (fun b h gd => ?_)) | (refine X.atAlloc ?_; refine X.alloc tbl gd rfl rfl rfl rfl (fun b h gd => ?_)) | (refine X.atBuild ?_; refine X.build tbl rfl rfl rfl rfl rfl rfl ?_) | (refine X.atBuildSlice ?_; refine X.buildSlice tbl gd rfl rfl rfl rfl rfl (by decide) (by decide) rfl (fun b h gd => ?_)) | (refine X.atDraw ?_; refine X.regionQ mo (by kernel_rfl) ?_) | (refine X.atCond ?_; refine X.cond_pt rfl (by show _ ≤ (y1 : Int).fdiv _; rw [ey1]; omega) ?_) | (refine X.atCall 90 ?_; refine X.call call90 rfl rfl rfl ((cell_ct E (a0 + i) (b0 + j) 6 _ (by omega) (by omega) (by omega) (by omega)).mono ?_); rintro _ _ ⟨rfl, rfl⟩) | (refine X.atAppend ?_; refine X.append1 tbl (R := R) (gd.perm (List.Perm.cons _ (List.perm_append_singleton _ _).symm)) hR2 rfl rfl rfl rfl rfl rfl rfl rfl rfl (by unfold maxLen; omega) (by show _ * 8 ≤ _; omega) (by decide) ?_; intro v' R' h hR' gd) | (refine X.atGuard ?_; first | refine X.guard_t rfl rfl rfl ?_ | refine X.guard_f rfl rfl rfl ?_ | refine X.guard_pt rfl rfl rfl (by omega) ?_ | refine X.guard_pf rfl rfl rfl (by omega) ?_ | refine X.guard_p rfl rfl rfl (fun hp => ?_) (fun hp => ?_) | refine X.guard rfl rfl rfl (fun hp => ?_) (fun hp => ?_)) | (refine X.atCond ?_; first | refine X.cond_pt rfl (by omega) ?_ | refine X.cond_pf rfl (by omega) ?_ | refine X.cond_p rfl (fun hp => ?_) (fun hp => ?_) | refine X.cond rfl (fun hp => ?_) (fun hp => ?_))))
      refine X.round (j + 1, v', R') ⟨rfl, rfl, rfl, ?_, trivial⟩ ⟨gd.perm (List.perm_append_singleton _ _), ?_, by omega⟩ (by show m - (j + 1) < m - j; omega)
      · show some _ = some _
        rw [wrap64_id (by omega) (by omega)]
        rfl
      · show RowT encInt _ 1 v' (cellsL a0 b0 i m ++ row1 (a0 + i) b0 (j + 1)) R'
        rw [row1_succ, ← List.append_assoc]
        unfold RowT
        rw [List.flatMap_append, List.length_append]
        exact hR'
    · obtain rfl : j = m := by omega
      (repeat' (first | refine X.runP tbl 400 rfl rfl ?_ | (refine X.atCond ?_; first | refine X.cond_t rfl ?_ | refine X.cond_f rfl ?_) | (refine X.atLoad ?_; first | refine X.loadL tbl gd 0 rfl rfl rfl rfl rfl rfl ?_ | refine X.loadL tbl gd 1 rfl rfl rfl rfl rfl rfl ?_ | refine X.loadL tbl gd 2 rfl rfl rfl rfl rfl rfl ?_ | refine X.loadL tbl gd 3 rfl rfl rfl rfl rfl rfl ?_ | refine X.loadL tbl gd 4 rfl rfl rfl rfl rfl rfl ?_) | (refine X.atStore ?_; first | refine X.storeL tbl gd 0 rfl rfl rfl rfl rfl rfl rfl rfl rfl rfl rfl (fun h gd => ?_) | refine X.storeL tbl gd 1 rfl rfl rfl rfl rfl rfl rfl rfl rfl rfl rfl (fun h gd => ?_) | refine X.storeL tbl gd 2 rfl rfl rfl rfl rfl rfl rfl rfl rfl rfl rfl (fun h gd => ?_) | refine X.storeL tbl gd 3 rfl rfl rfl rfl rfl rfl rfl rfl rfl rfl rfl (fun h gd => ?_) | refine X.storeL tbl gd 4 rfl rfl rfl rfl rfl rfl rfl rfl rfl rfl rfl (fun h gd => ?_)) | (refine X.atBox ?_; refine X.box gd rfl rfl rfl rfl (fun b h gd => ?_)) | (refine X.atAlloc ?_; refine X.alloc tbl gd rfl rfl rfl rfl (fun b h gd => ?_)) | (refine X.atBuild ?_; refine X.build tbl rfl rfl rfl rfl rfl rfl ?_) | (refine X.atBuildSlice ?_; refine X.buildSlice tbl gd rfl rfl rfl rfl rfl (by decide) (by decide) rfl (fun b h gd => ?_)) | (refine X.atDraw ?_; refine X.regionQ mo (by kernel_rfl) ?_) | (refine X.atCond ?_; refine X.cond_pf rfl (by show ¬ _ ≤ (y1 : Int).fdiv _; rw [ey1]; omega) ?_) | (refine X.atGuard ?_; first | refine X.guard_t rfl rfl rfl ?_ | refine X.guard_f rfl rfl rfl ?_ | refine X.guard_pt rfl rfl rfl (by omega) ?_ | refine X.guard_pf rfl rfl rfl (by omega) ?_ | refine X.guard_p rfl rfl rfl (fun hp => ?_) (fun hp => ?_) | refine X.guard rfl rfl rfl (fun hp => ?_) (fun hp => ?_)) | (refine X.atCond ?_; first | refine X.cond_pt rfl (by omega) ?_ | refine X.cond_pf rfl (by omega) ?_ | refine X.cond_p rfl (fun hp => ?_) (fun hp => ?_) | refine X.cond rfl (fun hp => ?_) (fun hp => ?_))))
      refine X.round (i + 1, v, R) ⟨rfl, rfl, ?_, trivial⟩ ⟨gd, ?_, by omega⟩ (by show _ - (i + 1) < _ - i; omega)
      · show some _ = some _
        rw [wrap64_id (by omega) (by omega)]
        rfl
      · show RowT encInt _ 1 v (cellsL a0 b0 (i + 1) j) R
        rw [cellsL_succ]
        exact hR
  · obtain rfl : i = a1 + 1 - a0 := by omega
    have hne : cellsL a0 b0 (a1 + 1 - a0) (b1 + 1 - b0) ≠ [] := by
      intro h0
      have := cellsL_len a0 b0 (a1 + 1 - a0) (b1 + 1 - b0)
      rw [h0] at this
      have h2 : 0 < (a1 + 1 - a0) * (b1 + 1 - b0) := Nat.mul_pos (by omega) (by omega)
      simp at this
      omega
    have hlen : (cellsL a0 b0 (a1 + 1 - a0) (b1 + 1 - b0)).length ≤ 4096 := by
      rw [cellsL_len]
      exact Nat.mul_le_mul (show a1 + 1 - a0 ≤ 64 by omega) (show b1 + 1 - b0 ≤ 64 by omega)
    have hbd := cellsL_bd (a0 := a0) (b0 := b0) (n := a1 + 1 - a0) (m := b1 + 1 - b0) (by omega) (by omega)
    generalize cellsL a0 b0 (a1 + 1 - a0) (b1 + 1 - b0) = zs0 at *
    have hbd1 : ∀ z ∈ (zs0.mergeSort fun x y => decide (x ≤ y)), 0 ≤ z ∧ z < 4096 := fun z hz => hbd z (List.mem_mergeSort.1 hz)
    have hl2 : (zs0.mergeSort fun x y => decide (x ≤ y)).length ≤ 4096 := by rw [List.length_mergeSort]; exact hlen
    (repeat' (first | refine X.runP tbl 400 rfl rfl ?_ | (refine X.atCond ?_; first | refine X.cond_t rfl ?_ | refine X.cond_f rfl ?_) | (refine X.atLoad ?_; first | refine X.loadL tbl gd 0 rfl rfl rfl rfl rfl rfl ?_ | refine X.loadL tbl gd 1 rfl rfl rfl rfl rfl rfl ?_ | refine X.loadL tbl gd 2 rfl rfl rfl rfl rfl rfl ?_ | refine X.loadL tbl gd 3 rfl rfl rfl rfl rfl rfl ?_ | refine X.loadL tbl gd 4 rfl rfl rfl rfl rfl rfl ?_) | (refine X.atStore ?_; first | refine X.storeL tbl gd 0 rfl rfl rfl rfl rfl rfl rfl rfl rfl rfl rfl (fun h gd => ?_) | refine X.storeL tbl gd 1 rfl rfl rfl rfl rfl rfl rfl rfl rfl rfl rfl (fun h gd => ?_) | refine X.storeL tbl gd 2 rfl rfl rfl rfl rfl rfl rfl rfl rfl rfl rfl (fun h gd => ?_) | refine X.storeL tbl gd 3 rfl rfl rfl rfl rfl rfl rfl rfl rfl rfl rfl (fun h gd => ?_) | refine X.storeL tbl gd 4 rfl rfl rfl rfl rfl rfl rfl rfl rfl rfl rfl (fun h gd => ?_)) | (refine X.atBox ?_; refine X.box gd rfl rfl rfl rfl (fun b h gd => ?_)) | (refine X.atAlloc ?_; refine X.alloc tbl gd rfl rfl rfl rfl (fun b h gd => ?_)) | (refine X.atBuild ?_; refine X.build tbl rfl rfl rfl rfl rfl rfl ?_) | (refine X.atBuildSlice ?_; refine X.buildSlice tbl gd rfl rfl rfl rfl rfl (by decide) (by decide) rfl (fun b h gd => ?_)) | (refine X.atDraw ?_; refine X.regionQ mo (by kernel_rfl) ?_) | (refine X.atCond ?_; refine X.cond_pf rfl (by show ¬ _ ≤ (x1 : Int).fdiv _; rw [ex1]; omega) ?_) | (refine X.atCall 77 ?_; refine X.call call77 rfl rfl rfl ((sort_ct E hR (gd.perm (List.perm_append_singleton _ _).symm) hne (by omega)).mono ?_); rintro _ h ⟨rfl, R1, hR1, gd⟩; have hne1 := (show (zs0.mergeSort fun x y => decide (x ≤ y)) ≠ [] from fun e => hne (List.eq_nil_of_length_eq_zero (by have := congrArg List.length e; rw [List.length_mergeSort] at this; exact this))); obtain ⟨bz, capz, cur, rfl, rfl, hcur⟩ := RowT.one hR1 hne1) | (refine X.atGuard ?_; first | refine X.guard_t rfl rfl rfl ?_ | refine X.guard_f rfl rfl rfl ?_ | refine X.guard_pt rfl rfl rfl (by omega) ?_ | refine X.guard_pf rfl rfl rfl (by omega) ?_ | refine X.guard_p rfl rfl rfl (fun hp => ?_) (fun hp => ?_) | refine X.guard rfl rfl rfl (fun hp => ?_) (fun hp => ?_)) | (refine X.atCond ?_; first | refine X.cond_pt rfl (by omega) ?_ | refine X.cond_pf rfl (by omega) ?_ | refine X.cond_p rfl (fun hp => ?_) (fun hp => ?_) | refine X.cond rfl (fun hp => ?_) (fun hp => ?_))))
    generalize (zs0.mergeSort fun x y => decide (x ≤ y)) = zs at *
    have gd := gd.sub (L' := [(bz, .cells cur 3 (0, 0))]) (by simp)
    refine X.loop (S := Nat × Value × List (Nat × Obj)) (fun s => [(47, .slice (some ⟨bz, 0, none⟩) zs.length capz), (48, .int .i64 zs.length), (49, .int .i64 s.1), (9, s.2.1)])
      (fun s h => GoodH h0 NoM ([(bz, .cells cur 3 (0, 0))] ++ s.2.2) h ∧ RowT encRange 24 2 s.2.1 (ofR (zs.take s.1)) s.2.2 ∧ s.1 ≤ zs.length)
      (fun s => zs.length - s.1) (0, .slice none 0 0, []) ⟨rfl, rfl, rfl, rfl, trivial⟩ ⟨gd, by simpa [ofR] using RowT.nil _ _ _, by simp⟩ ?_
    rintro ⟨i, v, R⟩ h ⟨gd, hR, hi⟩
    simp only at gd hR hi ⊢
    by_cases hlti : i < zs.length
    · have hz := List.getElem?_eq_getElem hlti
      generalize zs[i] = z at hz
      have hcz := hcur i z hz
      have hlen := ofR_len zs i
      (repeat' (first | refine X.runP tbl 400 rfl rfl ?_ | (refine X.atCond ?_; first | refine X.cond_t rfl ?_ | refine X.cond_f rfl ?_) | (refine X.atLoad ?_; first | refine X.loadL tbl gd 0 rfl rfl rfl rfl rfl rfl ?_ | refine X.loadL tbl gd 1 rfl rfl rfl rfl rfl rfl ?_ | refine X.loadL tbl gd 2 rfl rfl rfl rfl rfl rfl ?_ | refine X.loadL tbl gd 3 rfl rfl rfl rfl rfl rfl ?_ | refine X.loadL tbl gd 4 rfl rfl rfl rfl rfl rfl ?_) | (refine X.atStore ?_; first | refine X.storeL tbl gd 0 rfl rfl rfl rfl rfl rfl rfl rfl rfl rfl rfl (fun h gd => ?_) | refine X.storeL tbl gd 1 rfl rfl rfl rfl rfl rfl rfl rfl rfl rfl rfl (fun h gd => ?_) | refine X.storeL tbl gd 2 rfl rfl rfl rfl rfl rfl rfl rfl rfl rfl rfl (fun h gd => ?_) | refine X.storeL tbl gd 3 rfl rfl rfl rfl rfl rfl rfl rfl rfl rfl rfl (fun h gd => ?_) | refine X.storeL tbl gd 4 rfl rfl rfl rfl rfl rfl rfl rfl rfl rfl rfl (fun h gd => ?_)) | (refine X.atBox ?_; refine X.box gd rfl rfl rfl rfl (fun b h gd => ?_)) | (refine X.atAlloc ?_; refine X.alloc tbl gd rfl rfl rfl rfl (fun b h gd => ?_)) | (refine X.atBuild ?_; refine X.build tbl rfl rfl rfl rfl rfl rfl ?_) | (refine X.atBuildSlice ?_; refine X.buildSlice tbl gd rfl rfl rfl rfl rfl (by decide) (by decide) rfl (fun b h gd => ?_)) | (refine X.atDraw ?_; refine X.regionQ mo (by kernel_rfl) ?_) | (refine X.atIndex ?_; refine X.indexS tbl i rfl rfl rfl rfl rfl rfl rfl (by omega) ?_) | (refine X.atLoad ?_; refine X.loadR tbl gd 0 rfl rfl rfl rfl rfl rfl (show cur[0 + i * 1]? = _ from by rw [Nat.zero_add, Nat.mul_one]; exact hcz) ?_) | (refine X.atGuard ?_; first | refine X.guard_t rfl rfl rfl ?_ | refine X.guard_f rfl rfl rfl ?_ | refine X.guard_pt rfl rfl rfl (by omega) ?_ | refine X.guard_pf rfl rfl rfl (by omega) ?_ | refine X.guard_p rfl rfl rfl (fun hp => ?_) (fun hp => ?_) | refine X.guard rfl rfl rfl (fun hp => ?_) (fun hp => ?_)) | (refine X.atCond ?_; first | refine X.cond_pt rfl (by omega) ?_ | refine X.cond_pf rfl (by omega) ?_ | refine X.cond_p rfl (fun hp => ?_) (fun hp => ?_) | refine X.cond rfl (fun hp => ?_) (fun hp => ?_))))
      have hzb := hbd1 z (List.mem_of_getElem? hz)
      refine X.atCall 91 ?_
      refine X.call call91 rfl rfl (show _ = some [v, rangeV (z * 1048576, (z + 1) * 1048576)] from ?_) ((add_ct E hR (gd.perm List.perm_append_comm) (by omega)).mono ?_)
      · show some [v, _] = some [v, _]
        rw [wrap64_id (x := z + 1) (by omega) (by omega), show (2 : Int) ^ (min 20 IntKind.i64.bits) = 1048576 from rfl, wrap64_id (by omega) (by omega), wrap64_id (by omega) (by omega)]
        rfl
      · rintro v' h ⟨R', hR', gd⟩
        (repeat' (first | refine X.runP tbl 400 rfl rfl ?_ | (refine X.atCond ?_; first | refine X.cond_t rfl ?_ | refine X.cond_f rfl ?_) | (refine X.atLoad ?_; first | refine X.loadL tbl gd 0 rfl rfl rfl rfl rfl rfl ?_ | refine X.loadL tbl gd 1 rfl rfl rfl rfl rfl rfl ?_ | refine X.loadL tbl gd 2 rfl rfl rfl rfl rfl rfl ?_ | refine X.loadL tbl gd 3 rfl rfl rfl rfl rfl rfl ?_ | refine X.loadL tbl gd 4 rfl rfl rfl rfl rfl rfl ?_) | (refine X.atStore ?_; first | refine X.storeL tbl gd 0 rfl rfl rfl rfl rfl rfl rfl rfl rfl rfl rfl (fun h gd => ?_) | refine X.storeL tbl gd 1 rfl rfl rfl rfl rfl rfl rfl rfl rfl rfl rfl (fun h gd => ?_) | refine X.storeL tbl gd 2 rfl rfl rfl rfl rfl rfl rfl rfl rfl rfl rfl (fun h gd => ?_) | refine X.storeL tbl gd 3 rfl rfl rfl rfl rfl rfl rfl rfl rfl rfl rfl (fun h gd => ?_) | refine X.storeL tbl gd 4 rfl rfl rfl rfl rfl rfl rfl rfl rfl rfl rfl (fun h gd => ?_)) | (refine X.atBox ?_; refine X.box gd rfl rfl rfl rfl (fun b h gd => ?_)) | (refine X.atAlloc ?_; refine X.alloc tbl gd rfl rfl rfl rfl (fun b h gd => ?_)) | (refine X.atBuild ?_; refine X.build tbl rfl rfl rfl rfl rfl rfl ?_) | (refine X.atBuildSlice ?_; refine X.buildSlice tbl gd rfl rfl rfl rfl rfl (by decide) (by decide) rfl (fun b h gd => ?_)) | (refine X.atDraw ?_; refine X.regionQ mo (by kernel_rfl) ?_) | (refine X.atGuard ?_; first | refine X.guard_t rfl rfl rfl ?_ | refine X.guard_f rfl rfl rfl ?_ | refine X.guard_pt rfl rfl rfl (by omega) ?_ | refine X.guard_pf rfl rfl rfl (by omega) ?_ | refine X.guard_p rfl rfl rfl (fun hp => ?_) (fun hp => ?_) | refine X.guard rfl rfl rfl (fun hp => ?_) (fun hp => ?_)) | (refine X.atCond ?_; first | refine X.cond_pt rfl (by omega) ?_ | refine X.cond_pf rfl (by omega) ?_ | refine X.cond_p rfl (fun hp => ?_) (fun hp => ?_) | refine X.cond rfl (fun hp => ?_) (fun hp => ?_))))
        refine X.round (i + 1, v', R') ⟨rfl, rfl, ?_, rfl, trivial⟩ ⟨gd.perm List.perm_append_comm, ?_, by omega⟩ (by show _ - (i + 1) < _ - i; omega)
        · show some _ = some _
          rw [wrap64_id (by omega) (by omega)]
          rfl
        · show RowT encRange _ 2 v' (ofR (zs.take (i + 1))) R'
          rw [ofR_take hz]
          exact hR'
    · obtain rfl : i = zs.length := by omega
      (repeat' (first | refine X.runP tbl 400 rfl rfl ?_ | (refine X.atCond ?_; first | refine X.cond_t rfl ?_ | refine X.cond_f rfl ?_) | (refine X.atLoad ?_; first | refine X.loadL tbl gd 0 rfl rfl rfl rfl rfl rfl ?_ | refine X.loadL tbl gd 1 rfl rfl rfl rfl rfl rfl ?_ | refine X.loadL tbl gd 2 rfl rfl rfl rfl rfl rfl ?_ | refine X.loadL tbl gd 3 rfl rfl rfl rfl rfl rfl ?_ | refine X.loadL tbl gd 4 rfl rfl rfl rfl rfl rfl ?_) | (refine X.atStore ?_; first | refine X.storeL tbl gd 0 rfl rfl rfl rfl rfl rfl rfl rfl rfl rfl rfl (fun h gd => ?_) | refine X.storeL tbl gd 1 rfl rfl rfl rfl rfl rfl rfl rfl rfl rfl rfl (fun h gd => ?_) | refine X.storeL tbl gd 2 rfl rfl rfl rfl rfl rfl rfl rfl rfl rfl rfl (fun h gd => ?_) | refine X.storeL tbl gd 3 rfl rfl rfl rfl rfl rfl rfl rfl rfl rfl rfl (fun h gd => ?_) | refine X.storeL tbl gd 4 rfl rfl rfl rfl rfl rfl rfl rfl rfl rfl rfl (fun h gd => ?_)) | (refine X.atBox ?_; refine X.box gd rfl rfl rfl rfl (fun b h gd => ?_)) | (refine X.atAlloc ?_; refine X.alloc tbl gd rfl rfl rfl rfl (fun b h gd => ?_)) | (refine X.atBuild ?_; refine X.build tbl rfl rfl rfl rfl rfl rfl ?_) | (refine X.atBuildSlice ?_; refine X.buildSlice tbl gd rfl rfl rfl rfl rfl (by decide) (by decide) rfl (fun b h gd => ?_)) | (refine X.atDraw ?_; refine X.regionQ mo (by kernel_rfl) ?_) | (refine X.atGuard ?_; first | refine X.guard_t rfl rfl rfl ?_ | refine X.guard_f rfl rfl rfl ?_ | refine X.guard_pt rfl rfl rfl (by omega) ?_ | refine X.guard_pf rfl rfl rfl (by omega) ?_ | refine X.guard_p rfl rfl rfl (fun hp => ?_) (fun hp => ?_) | refine X.guard rfl rfl rfl (fun hp => ?_) (fun hp => ?_)) | (refine X.atCond ?_; first | refine X.cond_pt rfl (by omega) ?_ | refine X.cond_pf rfl (by omega) ?_ | refine X.cond_p rfl (fun hp => ?_) (fun hp => ?_) | refine X.cond rfl (fun hp => ?_) (fun hp => ?_))))
      rw [List.take_length] at hR
      exact X.retV rfl ⟨_, R, rfl, hR, gd.dropL⟩
end Go.Proofs.Ty
