/-
  'furlong/furlonglaw6.CoverPlaces' returns true at every input, and its arguments read afterwards as they read before: no condition beyond the given row's.
-/
import Derived.Test.YtddndccbdglmdaaRows
import Derived.Test.YtddndccbdglmdaaEp
import Derived.Test.YtddndccbdglmdaaOp
import Derived.Test.YtddndccbdglmdaaRw
import Derived.WalkKit
import Derived.ProofKit
import Derived.OpenShut
namespace Go.Proofs.Ytddndccbdglmdaa.coverPlaces
open Go.ChangeShapes Go.WideShapes Go.ChangeAt Go.RowKit
set_option linter.unusedVariables false

theorem own : ownKnob Try.prog.godebug = none := by kernel_rfl

theorem walk (bx : Go.Proofs.Ty.Bx) (q : Go.Proofs.Ty.Pt) (w : World) :
    Calls Try.prog 5 #[bx.v, q.v] w fun e w' => e = .returned (.bool true) ∧ Below w.heap.size w w' :=
  Go.SX.calls_of_ct w (Go.Proofs.Ty.places_all _ bx q w.heap)

set_option maxRecDepth 100000 in
theorem lifted (os : Os) (started : os.Started) (H : Type) (enc : TypeId × Value → H) :
    ReturnsInHanded {} Try.checked os 5 .any (Rows.coverPlacesSpec.pre6 enc Try.prog Try.f5 Rows.coverPlacesRow.domain false) (Rows.coverPlacesSpec.post enc Try.prog Try.f5 false true false false) := by
  refine returnsInHanded_of_change (C := Try.checked) own started (by kernel_rfl) Try.func5
    (ChangeSpec.witness6 (enc := enc) (C := Try.checked) false ⟨#[], #[.agg #[.int .i64 0, .int .i64 0, .int .i64 0, .int .i64 0], .agg #[.int .i64 0, .int .i64 0]], []⟩ 8 (by kernel_rfl) (by kernel_rfl) (by kernel_rfl) (by kernel_rfl)) ?_
  intro W base args ds gs before hval0 hW hcnd _
  have hval : ∀ (j : Nat) t v, Try.f5.params[j]? = some t → args[j]? = some v → Value.okWide Try.prog W .any base t v := hval0
  have hW' := hW
  obtain ⟨p, q, hA0, hV, rfl, hfz, hnd⟩ := hW
  have hA : DataW.TrodAll enc Try.prog W 0 (fun _ => true) true Try.f5.params.toList args.toList ds p := hA0
  rw [Try.params5] at hA hval
  obtain ⟨v0, vs0, d0, ds0, p0, q0, hargs, rfl, rfl, h0, r0⟩ := trodAll_cons hA
  obtain ⟨v1, vs1, d1, ds1, p1, q1, rfl, rfl, rfl, h1, r1⟩ := trodAll_cons r0
  obtain ⟨rfl, rfl, rfl⟩ := trodAll_nil r1
  obtain rfl : args = #[v0, v1] := by cases args; simp_all
  obtain ⟨rfl, rfl⟩ := trodVars_none hV
  obtain ⟨a0, rfl⟩ := Go.Proofs.Ty.open_box (hval 0 65 v0 rfl rfl) h0
  obtain ⟨a1, rfl⟩ := Go.Proofs.Ty.open_pt (hval 1 67 v1 rfl rfl) h1
  refine (walk a0 a1 W).mono fun e W' ⟨he, hB⟩ => ?_
  subst he
  exact ⟨_, rfl, Go.SX.post_law (tb := 4) (by kernel_rfl) (by kernel_rfl) rfl rfl Try.underlying4 hW' rfl rfl rfl hB⟩

theorem over : Rows.coverPlacesRow.holds Try.pinned (OpenSpec.ofChange Rows.coverPlacesSpec) :=
  OpenClaim.holds_of_wide 5 Try.f5 rfl rfl rfl rfl rfl rfl rfl ⟨rfl, rfl, rfl, rfl, rfl⟩ rfl rfl rfl rfl rfl (by kernel_rfl) Try.func5 (by kernel_rfl)
    (of_decide_eq_true (by kernel_rfl)) (by unfold Func.isWrapper; first | (rw [if_pos (by decide +kernel)]; kernel_rfl) | (rw [if_neg (by decide +kernel)]; exact ⟨rfl, rfl⟩))
    (fun os started H enc _ => lifted os started H enc)

theorem proved : Rows.CoverPlacesSaid :=
  over
#print axioms proved
end Go.Proofs.Ytddndccbdglmdaa.coverPlaces
