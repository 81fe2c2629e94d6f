/- A part of the proofs of this seat's statements: lemmas and contracts, each with its own premises. -/
import Derived.Test.YtddndccbdglmdaaG6
import Derived.Lib.SmallJoins
import Derived.OpenShut
open Go Go.SX
namespace Go.Proofs.Ty
open Go.Joins Go.ChangeShapes Go.WideShapes Go.RowKit
section
variable {H : Type} {enc : TypeId × Value → H} {w : World} {base b0 : Nat} {sp : Nat → Bool} {held : Bool} {r : Reach} {v : Value} {d : DataW H} {p : List MemPlace}
theorem cellsBox : Try.prog.cellsOf 65 = 4 := by kernel_rfl
theorem cellsPoint : Try.prog.cellsOf 67 = 2 := by kernel_rfl
theorem trodInt {n : Nat} {c : Value} {y : DataW H × List MemPlace} (h : DataW.trod enc Try.prog w base sp held n 3 [c] = some y) : ∃ i, c = .int .i64 i ∧ (Lit.int .i64 i).wf = true := by
  obtain ⟨i, hc, -, hw⟩ := DataW.trod_int Try.underlying3 h
  exact ⟨i, by simpa using hc, hw⟩
set_option maxRecDepth 100000 in
theorem open_box (hval : Value.okWide Try.prog w r b0 65 v) (hd : DataW.Trod enc Try.prog w base sp held 65 v d p) : ∃ bx : Bx, v = bx.v := by
  obtain ⟨v0, v1, v2, v3, y0, y1, y2, y3, n, rfl, -, -, h0, h1, h2, h3⟩ := open_agg4 Try.underlying65 (by kernel_rfl) cellsBox hval hd
  obtain ⟨i0, rfl, -⟩ := trodInt h0
  obtain ⟨i1, rfl, -⟩ := trodInt h1
  obtain ⟨i2, rfl, -⟩ := trodInt h2
  obtain ⟨i3, rfl, -⟩ := trodInt h3
  exact ⟨⟨i0, i1, i2, i3⟩, rfl⟩
set_option maxRecDepth 100000 in
theorem open_pt (hval : Value.okWide Try.prog w r b0 67 v) (hd : DataW.Trod enc Try.prog w base sp held 67 v d p) : ∃ q : Pt, v = q.v := by
  obtain ⟨v0, v1, y0, y1, n, rfl, -, -, h0, h1⟩ := open_agg2 Try.underlying67 (by kernel_rfl) cellsPoint hval hd
  obtain ⟨i0, rfl, -⟩ := trodInt h0
  obtain ⟨i1, rfl, -⟩ := trodInt h1
  exact ⟨⟨i0, i1⟩, rfl⟩
end
end Go.Proofs.Ty
