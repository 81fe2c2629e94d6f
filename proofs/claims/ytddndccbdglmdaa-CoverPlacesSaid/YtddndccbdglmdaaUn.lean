/- A part of the proofs of this seat's statements: lemmas and contracts, each with its own premises. -/
import Derived.Test.YtddndccbdglmdaaPn
import Derived.Laws.StructEq
open Go Go.SX
namespace Go.SX
section
variable {P : Program} {E : Env} {n : Nat} {post : Exit → Act → World → Prop} {dec : List Nat} {ks : List K} {fr : Fr} {h : Heap}
variable {q : Bool} {os : Array Oper} {rest : List Oper} {ty : TypeId} {pos : String} {af : Array Edge} {g : Option (Nat × Bool)} {dst : Option Nat}
theorem X.bin {op : BinOp} {t yT : TypeId} {x y : Operand} {vx vy v : Value} (hw : wantF os g fr = some true) (hd : dstOk n dst = true) (hx : evalO fr x = some vx) (hy : evalO fr y = some vy)
    (hg : ∀ w, (eqGuard op t x y vx vy).run P w = .ok () w) (hb : ∀ w, (binOp op t vx vy).run P w = .ok v w)
    (kk : X P E n post dec (.ops q os rest :: ks) (putF dst v fr) h) :
    X P E n post dec (.ops q os (⟨dst, .binOp op t x y yT, ty, pos, af, g⟩ :: rest) :: ks) fr h := by
  refine X.val hw hd (fun ac d ha => ?_) kk
  simp only [execOp, run_bind', ha.eval hx, ha.eval hy, hg, hb, run_pure']
theorem X.atBin {op : BinOp} {t yT : TypeId} {x y : Operand} (k : X P E n post dec (.ops q os (⟨dst, .binOp op t x y yT, ty, pos, af, g⟩ :: rest) :: ks) fr h) : X P E n post dec (.ops q os (⟨dst, .binOp op t x y yT, ty, pos, af, g⟩ :: rest) :: ks) fr h := k
end
end Go.SX
namespace Go.Proofs.Ty
attribute [local irreducible] X
theorem range_eq (w : World) (a b : Int × Int) : (Op.equalIn 10000 24 (rangeV a) (rangeV b)).run Try.prog w = .ok (a.1 == b.1 && a.2 == b.2) w := by
  unfold rangeV
  rw [run_equalIn_struct w 9999 24 _ _ (by kernel_rfl) Try.stoodInHeld24]
  have hf : (Try.prog.fieldsOf 24).toList.map (fun f => (f.name, f.type, f.offset)) = [("From", 3, 0), ("To", 3, 1)] := by kernel_rfl
  generalize (Try.prog.fieldsOf 24).toList = fs at hf
  obtain ⟨f1, f2, rfl⟩ : ∃ f1 f2, fs = [f1, f2] := by
    have hl := congrArg List.length hf
    rw [List.length_map] at hl
    rcases fs with _ | ⟨f1, _ | ⟨f2, _ | ⟨f3, fs⟩⟩⟩
    · cases hl
    · cases hl
    · exact ⟨f1, f2, rfl⟩
    · simp at hl
  simp only [List.map_cons, List.map_nil, List.cons.injEq, Prod.mk.injEq, and_true] at hf
  obtain ⟨⟨n1, t1, o1⟩, n2, t2, o2⟩ := hf
  have hi : (isAgg 3).run Try.prog w = .ok false w := Try.isAgg3 w
  have hp : ∀ (x y : Int) (o : Nat) (z : Int), #[Value.int IntKind.i64 x, Value.int IntKind.i64 y][o]? = some (.int .i64 z) → (part 3 #[.int .i64 x, .int .i64 y] o).run Try.prog w = .ok (.int .i64 z) w := fun x y o z h => by
    simp only [part, run_bind', hi, Bool.false_eq_true, if_false, h]
    rfl
  have q1 := fun x y => hp x y 0 x rfl
  have q2 := fun x y => hp x y 1 y rfl
  have qi := fun d a b => run_equalIn_int (P := Try.prog) w d 3 .i64 .i64 a b Try.underlying3
  simp only [Op.eqFields, n1, n2, t1, t2, o1, o2]
  rw [if_pos (by decide), if_pos (by decide)]
  simp only [run_bind', q1, qi]
  cases h1 : a.1 == b.1
  · rfl
  · simp only [run_bind', q2, qi, Bool.not_true, Bool.false_eq_true, if_false]
    cases h2 : a.2 == b.2 <;> rfl
end Go.Proofs.Ty
