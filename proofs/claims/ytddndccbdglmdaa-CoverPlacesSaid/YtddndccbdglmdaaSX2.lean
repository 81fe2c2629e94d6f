/- A part of the proofs of this seat's statements: lemmas and contracts, each with its own premises. -/
import Derived.Test.YtddndccbdglmdaaSX1
namespace Go.SX

/-- What is asked of a type. -/
inductive D where
  | bool | int (k : IntKind) | str | ptr (e : TypeId) | slice (e : TypeId) | arr (n : Nat) (e : TypeId) | struct (fs : List (TypeId × Nat)) | map (k e : TypeId) | other
def D.of : TypeDesc → D
  | .bool => .bool | .int k => .int k | .string => .str | .pointer e => .ptr e | .slice e => .slice e | .array n e => .arr n e
  | .struct fs => .struct (fs.toList.map fun f => (f.type, f.offset)) | .map k e => .map k e | _ => .other
structure TI where
  d : D
  size : Nat
  bytes : Nat
  zero : Value
def TI.agg (i : TI) : Bool := match i.d with | .arr .. | .struct _ => true | _ => false
structure TOk (P : Program) (t : TypeId) (i : TI) : Prop where
  und : (P.underlying t).map D.of = some i.d
  inf : (P.info? t).map (fun j => (j.zero, j.size, j.bytes)) = some (some i.zero, i.size, i.bytes)
/-- A table of types that the program bears out. -/
structure Tbl (P : Program) where
  T : TypeId → Option TI
  ok : ∀ t i, T t = some i → TOk P t i

/-- a table as a tree of numbers -/
inductive Tr where
  | lf (k : Nat) (i : TI)
  | nd (k : Nat) (l r : Tr)
def Tr.get : Tr → Nat → Option TI
  | .lf k i, t => match Nat.beq t k with
    | true => some i
    | false => none
  | .nd k l r, t => match Nat.blt t k with
    | true => l.get t
    | false => r.get t
def Tr.Ok (P : Program) : Tr → Prop
  | .lf k i => TOk P k i
  | .nd _ l r => l.Ok P ∧ r.Ok P
theorem Tr.get_ok {P : Program} (tr : Tr) (h : tr.Ok P) : ∀ t i, tr.get t = some i → TOk P t i := by
  induction tr with
  | lf k i =>
    intro t j hj
    simp only [Tr.get] at hj
    cases hb : Nat.beq t k with
    | true => rw [hb] at hj; simp at hj; subst hj; rw [Nat.eq_of_beq_eq_true hb]; exact h
    | false => rw [hb] at hj; simp at hj
  | nd k l r ihl ihr =>
    intro t j hj
    simp only [Tr.get] at hj
    cases hb : Nat.blt t k with
    | true => rw [hb] at hj; exact ihl h.1 t j hj
    | false => rw [hb] at hj; exact ihr h.2 t j hj
section
variable {P : Program} {t : TypeId} {i : TI} {w : World}
theorem TOk.info (h : TOk P t i) : ∃ j, P.info? t = some j ∧ j.zero = some i.zero ∧ j.size = i.size ∧ j.bytes = i.bytes := by
  have := h.inf
  cases hj : P.info? t with
  | none => rw [hj] at this; simp at this
  | some j => rw [hj] at this; simp at this; exact ⟨j, rfl, this.1, this.2.1, this.2.2⟩
theorem TOk.desc (h : TOk P t i) : ∃ u, P.underlying t = some u ∧ D.of u = i.d := by
  have := h.und
  cases hu : P.underlying t with
  | none => rw [hu] at this; simp at this
  | some u => rw [hu] at this; simp at this; exact ⟨u, rfl, this⟩
theorem run_bind' {α β : Type} (s : Sem α) (f : α → Sem β) (w : World) : (s >>= f).run P w = match s.run P w with | .ok a w' => (f a).run P w' | .halt e w' => .halt e w' := by
  rw [Sem.run_bind]; cases s.run P w <;> rfl
theorem TOk.run_sizeOf (h : TOk P t i) : (sizeOf t).run P w = .ok i.size w := by
  obtain ⟨j, hj, _, hs, _⟩ := h.info
  simp [sizeOf, typeInfo, hj, hs]
theorem TOk.run_zero (h : TOk P t i) : (zeroValue t).run P w = .ok i.zero w := by
  obtain ⟨j, hj, hz, _, _⟩ := h.info
  simp [zeroValue, typeInfo, hj, hz]
theorem TOk.run_agg (h : TOk P t i) : (isAgg t).run P w = .ok i.agg w := by
  obtain ⟨u, hu, hd⟩ := h.desc
  unfold TI.agg
  rw [← hd]
  simp only [isAgg, underlying, run_bind', program, Sem.run, hu]
  cases u <;> simp only [D.of] <;> rfl
end

def lnth : List Value → Nat → Option Value
  | [], _ => none
  | a :: _, 0 => some a
  | _ :: l, n + 1 => lnth l n
theorem lnth_eq (l : List Value) (n : Nat) : lnth l n = l[n]? := by
  induction l generalizing n with
  | nil => simp [lnth]
  | cons a l ih => cases n <;> simp [lnth, ih]
def fnth : List (TypeId × Nat) → Nat → Option (TypeId × Nat)
  | [], _ => none
  | a :: _, 0 => some a
  | _ :: l, n + 1 => fnth l n
theorem fnth_eq (l : List (TypeId × Nat)) (n : Nat) : fnth l n = l[n]? := by
  induction l generalizing n with
  | nil => simp [fnth]
  | cons a l ih => cases n <;> simp [fnth, ih]
/-- a list written out -/
def force {β : Type} : List Value → (List Value → β) → β
  | [], k => k []
  | a :: l, k => force l fun l' => k (a :: l')
theorem force_eq {β : Type} (l : List Value) (k : List Value → β) : force l k = k l := by
  induction l generalizing k with
  | nil => rfl
  | cons a l ih => simp [force, ih]
def ldrop : Nat → List Value → List Value
  | 0, l => l
  | _ + 1, [] => []
  | n + 1, _ :: l => ldrop n l
theorem ldrop_eq (n : Nat) (l : List Value) : ldrop n l = l.drop n := by
  induction n generalizing l with
  | zero => rfl
  | succ n ih => cases l <;> simp [ldrop, ih]
def ltake : Nat → List Value → List Value
  | 0, _ => []
  | _ + 1, [] => []
  | n + 1, a :: l => a :: ltake n l
theorem ltake_eq (n : Nat) (l : List Value) : ltake n l = l.take n := by
  induction n generalizing l with
  | zero => rfl
  | succ n ih => cases l <;> simp [ltake, ih]
/-- operands, each known, written out -/
def evalL {β : Type} (fr : Fr) : List Operand → (List Value → Option β) → Option β
  | [], k => k []
  | x :: l, k => match evalO fr x with
    | some v => evalL fr l fun l' => k (v :: l')
    | none => none
theorem evalL_eq {β : Type} {n : Nat} {fr : Fr} {a : Act} (ha : Agrees n a fr) (l : List Operand) (k : List Value → Option β) (r : β) (h : evalL fr l k = some r) : k (l.map a.eval) = some r := by
  induction l generalizing k with
  | nil => exact h
  | cons x l ih =>
    simp only [evalL] at h
    cases hx : evalO fr x with
    | none => rw [hx] at h; simp at h
    | some v => rw [hx] at h; rw [List.map_cons, ha.eval hx]; exact ih _ h

def bitsOp (op : BinOp) (k : IntKind) (x y : Int) : Int :=
  match op with
  | .and => k.wrap (BitVec.ofInt k.bits x &&& BitVec.ofInt k.bits y).toNat
  | .or => k.wrap (BitVec.ofInt k.bits x ||| BitVec.ofInt k.bits y).toNat
  | _ => k.wrap (BitVec.ofInt k.bits x ^^^ BitVec.ofInt k.bits y).toNat
/-- an operation on two whole numbers that cannot panic -/
def intOp (op : BinOp) (k : IntKind) (x y : Int) : Option Value :=
  match op with
  | .add => some (.int k (k.wrap (x + y)))
  | .sub => some (.int k (k.wrap (x - y)))
  | .mul => some (.int k (k.wrap (x * y)))
  | .and => some (.int k (bitsOp .and k x y))
  | .or => some (.int k (bitsOp .or k x y))
  | .xor => some (.int k (bitsOp .xor k x y))
  | .eql => some (.bool (x == y))
  | .neq => some (.bool (x != y))
  | .lss => some (.bool (decide (x < y)))
  | .leq => some (.bool (decide (x ≤ y)))
  | .gtr => some (.bool (decide (y < x)))
  | .geq => some (.bool (decide (y ≤ x)))
  | _ => none
def kindEq : IntKind → IntKind → Bool
  | .i8, .i8 | .i16, .i16 | .i32, .i32 | .i64, .i64 | .u8, .u8 | .u16, .u16 | .u32, .u32 | .u64, .u64 => true
  | _, _ => false
theorem kindEq_eq {k k' : IntKind} (h : kindEq k k' = true) : k = k' := by cases k <;> cases k' <;> first | rfl | simp [kindEq] at h
/-- an operation with a written number behind it: shifts, quotients -/
def intLit (op : BinOp) (k : IntKind) (x : Int) (m : Nat) : Option Value :=
  match op with
  | .shl => some (.int k (k.wrap (x * 2 ^ min m k.bits)))
  | .shr => some (.int k (x.fdiv (2 ^ min m k.bits)))
  | .quo => match m with | 0 => none | m + 1 => some (.int k (k.wrap (x.tdiv ((m + 1 : Nat) : Int))))
  | .rem => match m with | 0 => none | m + 1 => some (.int k (x.tmod ((m + 1 : Nat) : Int)))
  | _ => none
def eqOp (op : BinOp) (b : Bool) : Option Value :=
  match op with
  | .eql => some (.bool b)
  | .neq => some (.bool (!b))
  | _ => none
def pureBin (T : TypeId → Option TI) (op : BinOp) (xT : TypeId) (y : Operand) (vx vy : Value) : Option Value :=
  match vx, vy with
  | .int k a, .int k' b => match op with
    | .shl | .shr => match y with
      | .const (.int _ (Int.ofNat m)) => intLit op k a m
      | _ => none
    | .quo | .rem => match y with
      | .const (.int k2 (Int.ofNat m)) => match kindEq k k2 with
        | true => intLit op k a m
        | false => none
      | _ => none
    | _ => match kindEq k k' with
      | true => intOp op k a b
      | false => none
  | .bool a, .bool b => match T xT with
    | some { d := .bool, .. } => eqOp op (a == b)
    | _ => none
  | .pointer none, .pointer none => match T xT with
    | some { d := .ptr _, .. } => eqOp op true
    | _ => none
  | .pointer (some _), .pointer none => match T xT with
    | some { d := .ptr _, .. } => eqOp op false
    | _ => none
  | .pointer none, .pointer (some _) => match T xT with
    | some { d := .ptr _, .. } => eqOp op false
    | _ => none
  | _, _ => none
def minOf : List Value → Option Value
  | [.int k x, .int _ y] => some (.int k (if y < x then y else x))
  | [.int k x, .int _ y, .int _ z] => some (.int k (if z < (if y < x then y else x) then z else (if y < x then y else x)))
  | _ => none
def pureOp (T : TypeId → Option TI) (fr : Fr) : Op → Option Value
  | .move x => evalO fr x
  | .assign x => evalO fr x
  | .pick c a b => match evalO fr c with
    | some (.bool true) => evalO fr a
    | some (.bool false) => evalO fr b
    | _ => none
  | .binOp op xT x y _ => match evalO fr x with
    | some vx => match evalO fr y with
      | some vy => pureBin T op xT y vx vy
      | none => none
    | none => none
  | .unOp op _ x => match op, evalO fr x with
    | .not, some (.bool b) => some (.bool (!b))
    | .neg, some (.int k m) => some (.int k (k.wrap (0 - m)))
    | _, _ => none
  | .nilCheck x => match evalO fr x with
    | some (.pointer (some a)) => some (.pointer (some a))
    | some (.func (.func f) p q) => some (.func (.func f) p q)
    | _ => none
  | .extract x j => match evalO fr x with
    | some (.tuple vs) => lnth vs.toList j
    | _ => none
  | .field xT x j => match T xT with
    | some { d := .struct fs, .. } => match fnth fs j with
      | some (ft, off) => match T ft with
        | some ti => match evalO fr x with
          | some (.agg cs) => match ti.agg with
            | true => force (ltake ti.size (ldrop off cs.toList)) fun l => some (.agg l.toArray)
            | false => lnth cs.toList off
          | _ => none
        | none => none
      | none => none
    | _ => none
  | .fieldAddr s x j => match T s with
    | some { d := .struct fs, .. } => match fnth fs j with
      | some (ft, off) => match T ft with
        | some ti => match Nat.blt 0 ti.size with
          | true => match evalO fr x with
            | some (.pointer (some ⟨b, o, none⟩)) => match off with
              | 0 => some (.pointer (some ⟨b, o, none⟩))
              | off + 1 => some (.pointer (some ⟨b, o + (off + 1), none⟩))
            | _ => none
          | false => none
        | none => none
      | none => none
    | _ => none
  | .convert src dst x => match T src with
    | some _ => match T dst with
      | some { d := .int k, .. } => match evalO fr x with
        | some (.int _ m) => some (.int k (k.wrap m))
        | _ => none
      | _ => none
    | none => none
  | .makeFunc fn first captured => evalL fr first.toList fun l => evalL fr captured.toList fun l' => some (.func fn l.toArray l'.toArray)
  | .call { callee := .builtin .len, args := args, argTypes := ats } => match ats.toList with
    | [t] => match T t with
      | some { d := .slice _, .. } => match args.toList with
        | [x] => match evalO fr x with
          | some (.slice _ m _) => some (.int .i64 (m : Int))
          | _ => none
        | _ => none
      | _ => none
    | _ => none
  | _ => none
end Go.SX
