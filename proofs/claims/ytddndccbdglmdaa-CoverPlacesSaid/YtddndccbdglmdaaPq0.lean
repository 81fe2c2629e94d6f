/- A part of the proofs of this seat's statements: lemmas and contracts, each with its own premises. -/
import Derived.Test.YtddndccbdglmdaaH6
open Go Go.SX
namespace Go.Proofs.Ty
def decGo : Nat → Nat → Nat → Nat → Nat → Nat × Nat
  | 0, _, _, x, y => (x, y)
  | k + 1, s, t, x, y =>
    let rx := t / 2 % 2
    let ry := (t ^^^ rx) % 2
    let p := turnedN x y s rx ry
    decGo k (2 * s) (t / 4) (p.1 + s * rx) (p.2 + s * ry)
def dec6 (d : Nat) : Nat × Nat := decGo 6 1 d 0 0
theorem dec6_cell : ∀ x, x < 64 → ∀ y, y < 64 → dec6 (cellN x y 6) = (x, y) := by decide +kernel
theorem cell_dec6' : ∀ a, a < 64 → ∀ b, b < 64 → (dec6 (64 * a + b)).1 < 64 ∧ (dec6 (64 * a + b)).2 < 64 ∧ cellN (dec6 (64 * a + b)).1 (dec6 (64 * a + b)).2 6 = 64 * a + b := by decide +kernel
end Go.Proofs.Ty
