/- A part of the proofs of this seat's statements: lemmas and contracts, each with its own premises. -/
import Derived.Test.YtddndccbdglmdaaUo
import Derived.Test.YtddndccbdglmdaaPq0
open Go Go.SX
namespace Go.Proofs.Ty
theorem cell_dec6 (d : Nat) (h : d < 4096) : (dec6 d).1 < 64 ∧ (dec6 d).2 < 64 ∧ cellN (dec6 d).1 (dec6 d).2 6 = d := by
  have := cell_dec6' (d / 64) (by omega) (d % 64) (by omega)
  rwa [Nat.div_add_mod] at this
theorem cell_inj {x y x' y' : Nat} (hx : x < 64) (hy : y < 64) (hx' : x' < 64) (hy' : y' < 64) (h : cellN x y 6 = cellN x' y' 6) : x = x' ∧ y = y' := by
  have h1 := dec6_cell x hx y hy
  have h2 := dec6_cell x' hx' y' hy'
  rw [h, h2] at h1
  simpa [eq_comm] using h1
theorem cellsL_nodup {a0 b0 n m : Nat} (hn : a0 + n ≤ 64) (hm : b0 + m ≤ 64) : (cellsL a0 b0 n m).Nodup := by
  unfold cellsL
  unfold List.Nodup
  rw [List.pairwise_flatMap]
  refine ⟨fun i hi => ?_, ?_⟩
  · simp only [List.mem_range] at hi
    unfold row1
    rw [List.pairwise_map]
    refine List.Pairwise.imp_of_mem ?_ List.nodup_range
    intro x y hx hy hxy h
    simp only [List.mem_range] at hx hy
    have := (cell_inj (by omega) (by omega) (by omega) (by omega) (Int.ofNat.inj h)).2
    omega
  · refine List.Pairwise.imp_of_mem ?_ List.nodup_range
    intro i j hi hj hij
    simp only [List.mem_range] at hi hj
    intro z hz z' hz' e
    subst e
    simp only [row1, List.mem_map, List.mem_range] at hz hz'
    obtain ⟨u, hu, rfl⟩ := hz
    obtain ⟨w, hw, h⟩ := hz'
    have := (cell_inj (by omega) (by omega) (by omega) (by omega) (Int.ofNat.inj h)).1
    omega
theorem cellsL_mem {a0 b0 n m : Nat} {z : Int} : z ∈ cellsL a0 b0 n m ↔ ∃ x y, a0 ≤ x ∧ x < a0 + n ∧ b0 ≤ y ∧ y < b0 + m ∧ z = (cellN x y 6 : Nat) := by
  simp only [cellsL, row1, List.mem_flatMap, List.mem_map, List.mem_range]
  constructor
  · rintro ⟨i, hi, j, hj, rfl⟩
    exact ⟨a0 + i, b0 + j, by omega, by omega, by omega, by omega, rfl⟩
  · rintro ⟨x, y, h1, h2, h3, h4, rfl⟩
    exact ⟨x - a0, by omega, y - b0, by omega, by rw [Nat.add_sub_cancel' h1, Nat.add_sub_cancel' h3]⟩
/-- stretches of cells that lie in a row -/
theorem ofR_law (zs : List Int) : zs.Pairwise (· < ·) → (∀ z ∈ zs, 0 ≤ z ∧ z < 4096) → mayR (ofR zs) = true ∧ (∀ r ∈ ofR zs, ∃ z ∈ zs, r.2 ≤ (z + 1) * 1048576) ∧ ∀ d, hasR (ofR zs) d = zs.any fun z => decide (z * 1048576 ≤ d) && decide (d < (z + 1) * 1048576) := by
  suffices H : ∀ (n : Nat) (zs : List Int), zs.length = n → zs.Pairwise (· < ·) → (∀ z ∈ zs, 0 ≤ z ∧ z < 4096) → mayR (ofR zs) = true ∧ (∀ r ∈ ofR zs, ∃ z ∈ zs, r.2 ≤ (z + 1) * 1048576) ∧ ∀ d, hasR (ofR zs) d = zs.any fun z => decide (z * 1048576 ≤ d) && decide (d < (z + 1) * 1048576) from H _ zs rfl
  intro n
  induction n with
  | zero =>
    intro zs hn _ _
    obtain rfl := List.eq_nil_of_length_eq_zero hn
    exact ⟨rfl, by simp [ofR], fun d => rfl⟩
  | succ n ih =>
    intro zs hn hp hb
    rcases List.eq_nil_or_concat zs with rfl | ⟨ys, l, rfl⟩
    · simp at hn
    · rw [List.concat_eq_append] at *
      rw [List.pairwise_append] at hp
      obtain ⟨i1, i2, i3⟩ := ih ys (by simpa using hn) hp.1 (fun z hz => hb z (by simp [hz]))
      have hl := hb l (by simp)
      have hi : ∀ r ∈ ofR ys, r.2 ≤ l * 1048576 := fun r hr => by
        obtain ⟨z, hz, h⟩ := i2 r hr
        have := hp.2.2 z hz l (by simp)
        omega
      rw [ofR_snoc]
      refine ⟨addL_may i1 hi (by omega) (by omega) (by omega), fun r hr => ⟨l, by simp, addL_hi hi (by omega) r hr⟩, fun d => ?_⟩
      rw [addL_has i1 (by omega), i3, List.any_append]
      simp
theorem sort_strict {zs : List Int} (h : zs.Nodup) : (zs.mergeSort fun x y => decide (x ≤ y)).Pairwise (· < ·) := by
  have h1 : (zs.mergeSort fun x y => decide (x ≤ y)).Pairwise fun x y => decide (x ≤ y) = true :=
    List.pairwise_mergeSort (fun a b c h1 h2 => by simp at *; omega) (fun a b => by simp; omega) zs
  have h2 : (zs.mergeSort fun x y => decide (x ≤ y)).Nodup := (List.mergeSort_perm zs _).nodup_iff.2 h
  exact (h1.and h2).imp fun {a b} h => by simp at h; omega
/-- a box's cover: which places it has -/
theorem ofB_law {x0 y0 x1 y1 : Nat} (hx : x0 ≤ x1) (hy : y0 ≤ y1) (hx1 : x1 ≤ 4294967295) (hy1 : y1 ≤ 4294967295) :
    mayR (ofB x0 y0 x1 y1) = true ∧ ∀ d : Int, hasR (ofB x0 y0 x1 y1) d = true ↔ ∃ x y, x0 / 2 ^ 26 ≤ x ∧ x ≤ x1 / 2 ^ 26 ∧ y0 / 2 ^ 26 ≤ y ∧ y ≤ y1 / 2 ^ 26 ∧ ((cellN x y 6 : Nat) : Int) * 1048576 ≤ d ∧ d < (((cellN x y 6 : Nat) : Int) + 1) * 1048576 := by
  have q1 : x0 / 2 ^ 26 ≤ x1 / 2 ^ 26 := Nat.div_le_div_right hx
  have q2 : y0 / 2 ^ 26 ≤ y1 / 2 ^ 26 := Nat.div_le_div_right hy
  have q3 : x1 / 2 ^ 26 < 64 := by omega
  have q4 : y1 / 2 ^ 26 < 64 := by omega
  unfold ofB
  generalize x0 / 2 ^ 26 = a0 at *
  generalize x1 / 2 ^ 26 = a1 at *
  generalize y0 / 2 ^ 26 = b0 at *
  generalize y1 / 2 ^ 26 = b1 at *
  obtain ⟨h1, -, h3⟩ := ofR_law _ (sort_strict (cellsL_nodup (a0 := a0) (b0 := b0) (n := a1 + 1 - a0) (m := b1 + 1 - b0) (by omega) (by omega)))
    (fun z hz => cellsL_bd (by omega) (by omega) z (List.mem_mergeSort.1 hz))
  refine ⟨h1, fun d => ?_⟩
  rw [h3, List.any_eq_true]
  constructor
  · rintro ⟨z, hz, h⟩
    obtain ⟨x, y, e1, e2, e3, e4, rfl⟩ := cellsL_mem.1 (List.mem_mergeSort.1 hz)
    simp only [Bool.and_eq_true, decide_eq_true_eq] at h
    exact ⟨x, y, by omega, by omega, by omega, by omega, h.1, h.2⟩
  · rintro ⟨x, y, e1, e2, e3, e4, h⟩
    exact ⟨_, List.mem_mergeSort.2 (cellsL_mem.2 ⟨x, y, e1, by omega, e3, by omega, rfl⟩), by simp only [Bool.and_eq_true, decide_eq_true_eq]; exact h⟩
theorem ofB_all : ofB 0 0 4294967295 4294967295 = [(0, 4294967296)] := by
  obtain ⟨h1, h2⟩ := ofB_law (x0 := 0) (y0 := 0) (x1 := 4294967295) (y1 := 4294967295) (by decide) (by decide) (by decide) (by decide)
  refine mayR_uniq h1 (by decide) fun d => ?_
  rw [Bool.eq_iff_iff, h2]
  simp only [hasR_cons, hasR_nil, Bool.or_false, Bool.and_eq_true, decide_eq_true_eq]
  constructor
  · rintro ⟨x, y, -, hx, -, hy, h⟩
    have := cellN_lt (x := x) (y := y) (k := 6) (by omega) (by omega)
    omega
  · intro h
    have := cell_dec6 (d.toNat / 1048576) (by omega)
    exact ⟨(dec6 (d.toNat / 1048576)).1, (dec6 (d.toNat / 1048576)).2, by omega, by omega, by omega, by omega, by rw [this.2.2]; omega⟩
theorem ofB_zero : ofB 0 0 0 0 = [(0, 1048576)] := by
  obtain ⟨h1, h2⟩ := ofB_law (x0 := 0) (y0 := 0) (x1 := 0) (y1 := 0) (by decide) (by decide) (by decide) (by decide)
  refine mayR_uniq h1 (by decide) fun d => ?_
  rw [Bool.eq_iff_iff, h2]
  simp only [hasR_cons, hasR_nil, Bool.or_false, Bool.and_eq_true, decide_eq_true_eq]
  constructor
  · rintro ⟨x, y, -, hx, -, hy, h⟩
    obtain rfl : x = 0 := by omega
    obtain rfl : y = 0 := by omega
    rw [show cellN 0 0 6 = 0 from by decide +kernel] at h
    omega
  · intro h
    exact ⟨0, 0, by omega, by omega, by omega, by omega, by rw [show cellN 0 0 6 = 0 from by decide +kernel]; omega⟩
end Go.Proofs.Ty
