/- A part of the proofs of this seat's statements: lemmas and contracts, each with its own premises. -/
import Derived.Test.YtddndccbdglmdaaPq
open Go Go.SX
namespace Go.Proofs.Ty
theorem turned_div {x y j m rx ry : Nat} (hx : x < 2 ^ (j + m)) (hy : y < 2 ^ (j + m)) :
    (turnedN x y (2 ^ (j + m)) rx ry).1 / 2 ^ m = (turnedN (x / 2 ^ m) (y / 2 ^ m) (2 ^ j) rx ry).1 ∧ (turnedN x y (2 ^ (j + m)) rx ry).2 / 2 ^ m = (turnedN (x / 2 ^ m) (y / 2 ^ m) (2 ^ j) rx ry).2 := by
  have key : ∀ z, z < 2 ^ (j + m) → (2 ^ (j + m) - 1 - z) / 2 ^ m = 2 ^ j - 1 - z / 2 ^ m := fun z hz => by
    have hp : 0 < 2 ^ m := Nat.pow_pos (by omega)
    have h := Nat.div_add_mod z (2 ^ m)
    have hm := Nat.mod_lt z hp
    have hlt : z / 2 ^ m < 2 ^ j := by rw [Nat.div_lt_iff_lt_mul hp, ← Nat.pow_add]; exact hz
    have e : 2 ^ (j + m) - 1 - z = (2 ^ m - 1 - z % 2 ^ m) + 2 ^ m * (2 ^ j - 1 - z / 2 ^ m) := by
      rw [Nat.mul_sub, Nat.mul_sub, Nat.mul_one, Nat.pow_add, Nat.mul_comm (2 ^ j)]
      have h1 : 2 ^ m * (z / 2 ^ m) + 2 ^ m ≤ 2 ^ m * 2 ^ j := by
        rw [← Nat.mul_succ]
        exact Nat.mul_le_mul_left _ hlt
      omega
    rw [e, Nat.add_mul_div_left _ _ hp, Nat.div_eq_of_lt (by omega), Nat.zero_add]
  unfold turnedN
  split
  · exact ⟨rfl, rfl⟩
  · split
    · exact ⟨key y hy, key x hx⟩
    · exact ⟨rfl, rfl⟩
theorem cellGo_div (m : Nat) : ∀ (j x y q : Nat), x < 2 ^ (j + m) → y < 2 ^ (j + m) → cellGo (j + m) x y (2 ^ m * 2 ^ m * q) / (2 ^ m * 2 ^ m) = cellGo j (x / 2 ^ m) (y / 2 ^ m) q := by
  have hp : 0 < 2 ^ m := Nat.pow_pos (by omega)
  have hpp : 0 < 2 ^ m * 2 ^ m := Nat.mul_pos hp hp
  intro j
  induction j with
  | zero =>
    intro x y q hx hy
    rw [Nat.zero_add] at *
    have h1 := cellGo_lt m x y (2 ^ m * 2 ^ m * q) hx hy
    have h2 : ∀ (k x y d : Nat), d ≤ cellGo k x y d := by
      intro k
      induction k with
      | zero => intro x y d; exact Nat.le_refl _
      | succ k ih => intro x y d; exact Nat.le_trans (Nat.le_add_right _ _) (ih _ _ _)
    have h3 := h2 m x y (2 ^ m * 2 ^ m * q)
    show _ = q
    generalize cellGo m x y (2 ^ m * 2 ^ m * q) = c at *
    rw [Nat.div_eq_iff hpp]
    rw [Nat.mul_comm q]
    omega
  | succ j ih =>
    intro x y q hx hy
    have hsp : 0 < 2 ^ (j + m) := Nat.pow_pos (by omega)
    have e1 : j + 1 + m = (j + m) + 1 := by omega
    rw [e1]
    show cellGo (j + m) _ _ _ / _ = cellGo j _ _ _
    have bit : ∀ z, z / 2 ^ m / 2 ^ j % 2 = z / 2 ^ (j + m) % 2 := fun z => by rw [Nat.div_div_eq_div_mul, ← Nat.pow_add, Nat.add_comm m j]
    have low : ∀ z, z % 2 ^ (j + m) / 2 ^ m = z / 2 ^ m % 2 ^ j := fun z => by
      rw [Nat.pow_add, Nat.mul_comm, Nat.mod_mul_right_div_self]
    have hl := turnedN_lt (x := x % 2 ^ (j + m)) (y := y % 2 ^ (j + m)) (s := 2 ^ (j + m)) (rx := x / 2 ^ (j + m) % 2) (ry := y / 2 ^ (j + m) % 2) (Nat.mod_lt _ hsp) (Nat.mod_lt _ hsp)
    have ht := turned_div (x := x % 2 ^ (j + m)) (y := y % 2 ^ (j + m)) (j := j) (m := m) (rx := x / 2 ^ (j + m) % 2) (ry := y / 2 ^ (j + m) % 2) (Nat.mod_lt _ hsp) (Nat.mod_lt _ hsp)
    have ed : 2 ^ m * 2 ^ m * q + 2 ^ (j + m) * 2 ^ (j + m) * ((3 * (x / 2 ^ (j + m) % 2)) ^^^ (y / 2 ^ (j + m) % 2)) = 2 ^ m * 2 ^ m * (q + 2 ^ j * 2 ^ j * ((3 * (x / 2 ^ (j + m) % 2)) ^^^ (y / 2 ^ (j + m) % 2))) := by
      rw [Nat.mul_add, Nat.pow_add]
      congr 1
      generalize (3 * (x / (2 ^ j * 2 ^ m) % 2)) ^^^ (y / (2 ^ j * 2 ^ m) % 2) = c
      generalize 2 ^ j = a
      generalize 2 ^ m = b
      rw [show a * b * (a * b) * c = b * b * (a * a * c) from by ac_rfl]
    rw [ed, ih _ _ _ hl.1 hl.2, ht.1, ht.2, low, low, bit, bit]
theorem cell_prefix {x y : Nat} (hx : x < 65536) (hy : y < 65536) : cellN x y 16 / 1048576 = cellN (x / 1024) (y / 1024) 6 := by
  have := cellGo_div 10 6 x y 0 (by omega) (by omega)
  rw [Nat.mul_zero] at this
  exact this
/-- a place's curve place lies in a box's cover if and only if its cell is one that the box meets -/
theorem ofB_place {x0 y0 x1 y1 X Y : Nat} (hx : x0 ≤ x1) (hy : y0 ≤ y1) (hx1 : x1 ≤ 4294967295) (hy1 : y1 ≤ 4294967295) (hX : X ≤ 4294967295) (hY : Y ≤ 4294967295) :
    hasR (ofB x0 y0 x1 y1) (cellN (X / 2 ^ 16) (Y / 2 ^ 16) 16 : Nat) = (decide (x0 / 67108864 ≤ X / 67108864) && decide (X / 67108864 ≤ x1 / 67108864) && decide (y0 / 67108864 ≤ Y / 67108864) && decide (Y / 67108864 ≤ y1 / 67108864)) := by
  have hp := cell_prefix (x := X / 2 ^ 16) (y := Y / 2 ^ 16) (by omega) (by omega)
  rw [Nat.div_div_eq_div_mul, Nat.div_div_eq_div_mul] at hp
  have h2 := (ofB_law hx hy hx1 hy1).2 (cellN (X / 2 ^ 16) (Y / 2 ^ 16) 16 : Nat)
  generalize cellN (X / 2 ^ 16) (Y / 2 ^ 16) 16 = c at *
  rw [Bool.eq_iff_iff, h2]
  simp only [Bool.and_eq_true, decide_eq_true_eq]
  constructor
  · rintro ⟨x, y, a1, a2, a3, a4, h⟩
    have e : cellN x y 6 = c / 1048576 := by omega
    rw [hp] at e
    obtain ⟨rfl, rfl⟩ := cell_inj (by omega) (by omega) (by omega) (by omega) e
    omega
  · intro h
    refine ⟨X / (2 ^ 16 * 1024), Y / (2 ^ 16 * 1024), by omega, by omega, by omega, by omega, ?_⟩
    rw [← hp]
    omega
end Go.Proofs.Ty
