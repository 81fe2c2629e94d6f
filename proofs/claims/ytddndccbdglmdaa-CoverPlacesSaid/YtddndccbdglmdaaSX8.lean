/- A part of the proofs of this seat's statements: lemmas and contracts, each with its own premises. -/
import Derived.Test.YtddndccbdglmdaaSX7
import Derived.Deep.Quiet
namespace Go.SX
/-- parts laid into a row -/
def fillL (place : Nat → Option (Nat × Nat)) : List Value → List (Nat × Operand) → Fr → (List Value → Option (List Value)) → Option (List Value)
  | cells, [], _, k => k cells
  | cells, (i, x) :: ps, fr, k => match evalO fr x with
    | some v => match place i with
      | some (off, sz) => match Nat.beq v.cells.toList.length sz with
        | true => match setL off v.cells.toList cells some with
          | some cells' => fillL place cells' ps fr k
          | none => none
        | false => none
      | none => none
    | none => none
theorem foldl_set (vs : List Value) : ∀ (off : Nat) (cs : Array Value) (j : Nat), off + j + vs.length ≤ cs.size →
    (vs.zipIdx j).foldl (fun cs (p : Value × Nat) => cs.setIfInBounds (off + p.2) p.1) cs = (cs.toList.take (off + j) ++ vs ++ cs.toList.drop (off + j + vs.length)).toArray := by
  induction vs with
  | nil => intro off cs j _; simp
  | cons v vs ih =>
    intro off cs j hle
    simp only [List.length_cons] at hle
    simp only [List.zipIdx_cons, List.foldl_cons]
    rw [ih off _ (j + 1) (by simp; omega)]
    congr 1
    simp only [Array.toList_setIfInBounds, List.length_cons]
    have h1 : (cs.toList.set (off + j) v).take (off + (j + 1)) = cs.toList.take (off + j) ++ [v] := by
      rw [List.set_eq_take_append_cons_drop, if_pos (by simp; omega)]
      rw [show off + (j + 1) = (cs.toList.take (off + j)).length + 1 from by simp; omega, List.take_append]
      simp
      rw [List.take_of_length_le]
      simp
    have h2 : (cs.toList.set (off + j) v).drop (off + (j + 1) + vs.length) = cs.toList.drop (off + j + (vs.length + 1)) := by
      rw [List.drop_set_of_lt (by omega)]
      congr 1
      omega
    rw [h1, h2]
    simp
theorem fill_eq {n : Nat} {a : Act} {fr : Fr} (ha : Agrees n a fr) (place : Nat → Option (Nat × Nat)) : ∀ (ps : List (Nat × Operand)) (cells r : List Value), fillL place cells ps fr some = some r →
    Instr.fill place cells.toArray (ps.map fun p => (p.1, a.eval p.2)) = some r.toArray := by
  intro ps
  induction ps with
  | nil => intro cells r h; simp [fillL] at h; subst h; rfl
  | cons p ps ih =>
    obtain ⟨i, x⟩ := p
    intro cells r h
    simp only [fillL] at h
    split at h <;> try simp at h
    rename_i v hv
    split at h <;> try simp at h
    rename_i off sz hp
    split at h <;> try simp at h
    rename_i hsz
    split at h <;> try simp at h
    rename_i cells' hset
    obtain ⟨hle, hc⟩ := setL_eq _ _ _ _ _ hset
    have hsz' := Nat.eq_of_beq_eq_true hsz
    simp only [List.map_cons, Instr.fill, hp, ha.eval hv]
    simp only [Array.length_toList] at hle hsz' hc
    have hg : ¬ ((v.cells.size != sz) || decide (off + v.cells.size > cells.toArray.size)) = true := by simp; omega
    rw [show (if v.cells.size ≠ sz || decide (off + v.cells.size > cells.toArray.size) then none else
      Instr.fill place (v.cells.zipIdx.foldl (fun cs (c, j) => cs.setIfInBounds (off + j) c) cells.toArray) (ps.map fun p => (p.1, a.eval p.2))) =
      Instr.fill place (v.cells.zipIdx.foldl (fun cs (c, j) => cs.setIfInBounds (off + j) c) cells.toArray) (ps.map fun p => (p.1, a.eval p.2)) from by
        rw [if_neg]; simp; omega]
    have hfold := foldl_set v.cells.toList off cells.toArray 0 (by simpa using hle)
    have : v.cells.zipIdx.foldl (fun cs (c, j) => cs.setIfInBounds (off + j) c) cells.toArray = cells'.toArray := by
      rw [← Array.foldl_toList, Array.toList_zipIdx]
      rw [hfold]
      simp only [Option.some.injEq] at hc
      rw [← hc]
      simp
    rw [this]
    exact ih _ _ h
def placesOf (T : TypeId → Option TI) : List (TypeId × Nat) → Option (List (Nat × Nat))
  | [] => some []
  | (t, off) :: l => match T t with
    | some ti => match placesOf T l with
      | some r => some ((off, ti.size) :: r)
      | none => none
    | none => none
def pnth : List (Nat × Nat) → Nat → Option (Nat × Nat)
  | [], _ => none
  | a :: _, 0 => some a
  | _ :: l, n + 1 => pnth l n
theorem pnth_eq (l : List (Nat × Nat)) (n : Nat) : pnth l n = l[n]? := by
  induction l generalizing n with
  | nil => simp [pnth]
  | cons a l ih => cases n <;> simp [pnth, ih]
def zrow : Nat → List Value → List Value
  | 0, _ => []
  | n + 1, z => z ++ zrow n z
theorem zrow_len (m : Nat) (z : List Value) : (zrow m z).length = m * z.length := by
  induction m with
  | zero => simp [zrow]
  | succ m ih => simp [zrow, ih, Nat.succ_mul]; omega
theorem zrow_get (z : List Value) : ∀ (m i : Nat), i < m * z.length → (zrow m z)[i]? = z[i % z.length]? := by
  intro m
  induction m with
  | zero => intro i hi; simp at hi
  | succ m ih =>
    intro i hi
    simp only [zrow]
    by_cases h : i < z.length
    · rw [List.getElem?_append_left h, Nat.mod_eq_of_lt h]
    · have hh : (m + 1) * z.length = m * z.length + z.length := Nat.succ_mul _ _
      have hle : z.length ≤ i := by omega
      rw [List.getElem?_append_right hle, ih (i - z.length) (by omega)]
      rw [Nat.mod_eq_sub_mod hle]

section
variable {P : Program} {E : Env} {n : Nat} {post : Exit → Act → World → Prop} {dec : List Nat} {ks : List K} {fr : Fr} {h : Heap}
variable {q : Bool} {os : Array Oper} {rest : List Oper} {h0 : Heap} {M : Nat → Prop} {L R : List (Nat × Obj)}
variable {ty : TypeId} {pos : String} {af : Array Edge} {g : Option (Nat × Bool)} {dst : Option Nat}

theorem run_mapM_places (T : Tbl P) (gs : List Field) (r : List (Nat × Nat)) (w : World) (hr : placesOf T.T (gs.map fun f => (f.type, f.offset)) = some r) :
    (gs.mapM fun f => (do pure (f.offset, ← sizeOf f.type) : Sem (Nat × Nat))).run P w = .ok r w := by
  induction gs generalizing r with
  | nil => simp [placesOf] at hr; subst hr; rfl
  | cons f gs ih =>
    simp only [List.map_cons, placesOf] at hr
    split at hr <;> try simp at hr
    rename_i ti hti
    split at hr <;> try simp at hr
    rename_i r' hr'
    subst hr
    simp only [List.mapM_cons, run_bind', (T.ok _ _ hti).run_sizeOf, run_pure', ih _ hr']
theorem X.build (T : Tbl P) {t : TypeId} {parts : Array (Nat × Operand)} {fs : List (TypeId × Nat)} {s1 s2 : Nat} {z : Value} {zs cs : List Value} {pl : List (Nat × Nat)} (hw : wantF os g fr = some true) (hd : dstOk n dst = true)
    (hT : T.T t = some ⟨.struct fs, s1, s2, z⟩) (hpl : placesOf T.T fs = some pl) (hz : z.cells.toList = zs) (hf : fillL (pnth pl) zs parts.toList fr some = some cs)
    (k : X P E n post dec (.ops q os rest :: ks) (putF dst (.agg cs.toArray) fr) h) :
    X P E n post dec (.ops q os (⟨dst, .build t parts, ty, pos, af, g⟩ :: rest) :: ks) fr h := by
  subst hz
  refine X.val hw hd (fun ac d ha => ?_) k
  obtain ⟨gs, hu, hm⟩ := und_struct (T.ok _ _ hT) rfl
  subst hm
  have hp := run_mapM_places T gs.toList pl (E.w h d) hpl
  have hfill := fill_eq ha _ _ _ _ hf
  rw [show pnth pl = (pl.toArray[·]?) from by funext i; simp [pnth_eq]] at hfill
  simp only [Array.toArray_toList] at hfill
  have hmap : (gs.mapM fun f => (do Pure.pure (f.offset, ← sizeOf f.type) : Sem (Nat × Nat))).run P (E.w h d) = .ok pl.toArray (E.w h d) := by
    rw [Array.mapM_eq_mapM_toList]
    simp only [Sem.run_map]
    rw [hp]
    rfl
  simp only [execOp, run_bind', Instr.build, (T.ok _ _ hT).run_zero, run_und hu, hmap, Array.toList_map]
  rw [hfill]
  rfl
/-- The array type's literal. -/
theorem X.buildA (T : Tbl P) {t e : TypeId} {len : Nat} {parts : Array (Nat × Operand)} {s1 s2 : Nat} {z : Value} {te : TI} {zs cs : List Value} (hw : wantF os g fr = some true) (hd : dstOk n dst = true)
    (hT : T.T t = some ⟨.arr len e, s1, s2, z⟩) (hTe : T.T e = some te) (hz : z.cells.toList = zs) (hf : fillL (fun i => some (i * te.size, te.size)) zs parts.toList fr some = some cs)
    (k : X P E n post dec (.ops q os rest :: ks) (putF dst (.agg cs.toArray) fr) h) :
    X P E n post dec (.ops q os (⟨dst, .build t parts, ty, pos, af, g⟩ :: rest) :: ks) fr h := by
  subst hz
  refine X.val hw hd (fun ac d ha => ?_) k
  have hu := und_arr (T.ok _ _ hT) rfl
  have hfill := fill_eq ha _ _ _ _ hf
  simp only [Array.toArray_toList] at hfill
  simp only [execOp, run_bind', Instr.build, (T.ok _ _ hT).run_zero, run_und hu, (T.ok _ _ hTe).run_sizeOf, Array.toList_map]
  rw [hfill]
  rfl
theorem X.buildSlice (T : Tbl P) (gd : GoodH h0 M L h) {t e : TypeId} {len : Nat} {parts : Array (Nat × Operand)} {s1 s2 : Nat} {z : Value} {te : TI} {cs : List Value} (hw : wantF os g fr = some true) (hd : dstOk n dst = true)
    (hT : T.T t = some ⟨.slice e, s1, s2, z⟩) (hTe : T.T e = some te) (hz : te.zero.cells.toList.length = te.size) (hsz : 0 < te.size) (hb : len * te.size ≤ 16777216)
    (hf : fillL (fun i => some (i * te.size, te.size)) (zrow len te.zero.cells.toList) parts.toList fr some = some cs)
    (k : ∀ b h', GoodH h0 M ((b, .cells cs.toArray e (0, 0)) :: L) h' → X P E n post dec (.ops false os rest :: ks) (putF dst (.slice (some ⟨b, 0, none⟩) len len) fr) h') :
    X P E n post dec (.ops false os (⟨dst, .buildSlice t len parts, ty, pos, af, g⟩ :: rest) :: ks) fr h := by
  refine X.opVal hw hd fun ac d h0d ha => ⟨_, _, d, h0d, ?_, k h.size _ (gd.push _)⟩
  have hu := und_slice (T.ok _ _ hT) rfl
  have hfill := fill_eq ha _ _ _ _ hf
  have hzz : ((Array.range (len * te.size)).map fun i => te.zero.cells[i % te.zero.cells.size]!) = (zrow len te.zero.cells.toList).toArray := by
    apply Array.ext'
    simp only [Array.toList_map, Array.toList_range]
    apply List.ext_getElem?
    intro i
    simp only [Array.length_toList] at hz
    by_cases hi : i < len * te.size
    · rw [zrow_get _ _ _ (by rw [Array.length_toList, hz]; exact hi)]
      have hlt : i % te.size < te.size := Nat.mod_lt _ hsz
      simp [hi, hz, hlt]
    · have : (zrow len te.zero.cells.toList).length ≤ i := by rw [zrow_len, Array.length_toList, hz]; omega
      rw [List.getElem?_eq_none this]
      simp
      omega
  simp only [execOp, run_bind', Instr.buildSlice, run_und hu, (T.ok _ _ hTe).run_sizeOf]
  rw [if_neg (show ¬ len * te.size > 2 ^ 24 by simp; omega)]
  by_cases hz0 : len * te.size = 0
  · have hlen : len = 0 := by rcases Nat.mul_eq_zero.1 hz0 with h | h <;> omega
    subst hlen
    simp only [hz0, if_true, run_bind', run_pure', Array.toList_map]
    rw [show (Array.range (0 : Nat)).map (fun x => (#[] : Array Value)[x % (#[] : Array Value).size]!) = (zrow 0 te.zero.cells.toList).toArray from by simp [zrow], hfill]
    simp only [newRow, newObj, run_bind', Sem.run, run_pure']
    rfl
  · simp only [if_neg hz0, run_bind', (T.ok _ _ hTe).run_zero, run_pure', Array.toList_map]
    rw [hzz, hfill]
    simp only [newRow, newObj, run_bind', Sem.run, run_pure']
    rfl
/-! shifts by a number that is not written; an array's element -/
theorem X.shl {t yT : TypeId} {x y : Operand} {k k2 : IntKind} {a b : Int} (m : Nat) (hw : wantF os g fr = some true) (hd : dstOk n dst = true) (hx : evalO fr x = some (.int k a)) (hy : evalO fr y = some (.int k2 b)) (hb : b = (m : Int))
    (kk : X P E n post dec (.ops q os rest :: ks) (putF dst (.int k (k.wrap (a * 2 ^ (Min.min m k.bits)))) fr) h) :
    X P E n post dec (.ops q os (⟨dst, .binOp .shl t x y yT, ty, pos, af, g⟩ :: rest) :: ks) fr h := by
  subst hb
  refine X.val hw hd (fun ac d ha => ?_) kk
  simp only [execOp, run_bind', ha.eval hx, ha.eval hy, eqGuard_int, binOp, Op.shift]
  rw [if_neg (by omega)]
  simp only [Int.toNat_natCast]
  rfl
theorem X.shr {t yT : TypeId} {x y : Operand} {k k2 : IntKind} {a b : Int} (m : Nat) (hw : wantF os g fr = some true) (hd : dstOk n dst = true) (hx : evalO fr x = some (.int k a)) (hy : evalO fr y = some (.int k2 b)) (hb : b = (m : Int))
    (kk : X P E n post dec (.ops q os rest :: ks) (putF dst (.int k (a.fdiv (2 ^ (Min.min m k.bits)))) fr) h) :
    X P E n post dec (.ops q os (⟨dst, .binOp .shr t x y yT, ty, pos, af, g⟩ :: rest) :: ks) fr h := by
  subst hb
  refine X.val hw hd (fun ac d ha => ?_) kk
  simp only [execOp, run_bind', ha.eval hx, ha.eval hy, eqGuard_int, binOp, Op.shift]
  rw [if_neg (by omega)]
  simp only [Int.toNat_natCast]
  rfl
theorem X.indexV (T : Tbl P) {t e : TypeId} {x ix : Operand} {len s1 s2 : Nat} {z : Value} {te : TI} {cs : Array Value} {kk : IntKind} {i : Int} {v : Value} (j : Nat) (hw : wantF os g fr = some true) (hd : dstOk n dst = true)
    (hT : T.T t = some ⟨.arr len e, s1, s2, z⟩) (hTe : T.T e = some te) (hag : te.agg = false) (hsz : te.size = 1) (hx : evalO fr x = some (.agg cs)) (hix : evalO fr ix = some (.int kk i)) (hij : i = (j : Int)) (hj : j < len)
    (hv : lnth cs.toList j = some v) (k : X P E n post dec (.ops q os rest :: ks) (putF dst v fr) h) :
    X P E n post dec (.ops q os (⟨dst, .index t x ix, ty, pos, af, g⟩ :: rest) :: ks) fr h := by
  subst hij
  refine X.val hw hd (fun ac d ha => ?_) k
  have h1 : (0 : Int) ≤ (j : Int) ∧ (j : Int) < (len : Int) := by omega
  rw [lnth_eq] at hv
  have hag' := (T.ok _ _ hTe).run_agg (w := E.w h d)
  rw [hag] at hag'
  simp only [Array.getElem?_toList] at hv
  simp only [execOp, run_bind', ha.eval hx, ha.eval hix, Instr.index, asIntOf, run_pure', run_und (und_arr (T.ok _ _ hT) rfl), if_pos h1, (T.ok _ _ hTe).run_sizeOf, Int.toNat_natCast, hsz, Nat.mul_one, part, hag', hv]
  rfl
/-! which operation stands at the head -/
theorem X.atLoad {t : TypeId} {x : Operand} (k : X P E n post dec (.ops q os (⟨dst, .load t x, ty, pos, af, g⟩ :: rest) :: ks) fr h) : X P E n post dec (.ops q os (⟨dst, .load t x, ty, pos, af, g⟩ :: rest) :: ks) fr h := k
theorem X.atStore {t : TypeId} {x y : Operand} (k : X P E n post dec (.ops false os (⟨dst, .store t x y, ty, pos, af, g⟩ :: rest) :: ks) fr h) : X P E n post dec (.ops false os (⟨dst, .store t x y, ty, pos, af, g⟩ :: rest) :: ks) fr h := k
theorem X.atBox {t : TypeId} {x : Operand} (k : X P E n post dec (.ops false os (⟨dst, .box t x, ty, pos, af, g⟩ :: rest) :: ks) fr h) : X P E n post dec (.ops false os (⟨dst, .box t x, ty, pos, af, g⟩ :: rest) :: ks) fr h := k
theorem X.atAlloc {t : TypeId} (k : X P E n post dec (.ops false os (⟨dst, .alloc t, ty, pos, af, g⟩ :: rest) :: ks) fr h) : X P E n post dec (.ops false os (⟨dst, .alloc t, ty, pos, af, g⟩ :: rest) :: ks) fr h := k
theorem X.atBuild {t : TypeId} {p : Array (Nat × Operand)} (k : X P E n post dec (.ops q os (⟨dst, .build t p, ty, pos, af, g⟩ :: rest) :: ks) fr h) : X P E n post dec (.ops q os (⟨dst, .build t p, ty, pos, af, g⟩ :: rest) :: ks) fr h := k
theorem X.atBuildSlice {t : TypeId} {m : Nat} {p : Array (Nat × Operand)} (k : X P E n post dec (.ops false os (⟨dst, .buildSlice t m p, ty, pos, af, g⟩ :: rest) :: ks) fr h) : X P E n post dec (.ops false os (⟨dst, .buildSlice t m p, ty, pos, af, g⟩ :: rest) :: ks) fr h := k
theorem X.atIndex {t : TypeId} {x y : Operand} (k : X P E n post dec (.ops q os (⟨dst, .indexAddr t x y, ty, pos, af, g⟩ :: rest) :: ks) fr h) : X P E n post dec (.ops q os (⟨dst, .indexAddr t x y, ty, pos, af, g⟩ :: rest) :: ks) fr h := k
theorem X.atSlice {t : TypeId} {x : Operand} {l u m : Option Operand} (k : X P E n post dec (.ops q os (⟨dst, .slice t x l u m, ty, pos, af, g⟩ :: rest) :: ks) fr h) : X P E n post dec (.ops q os (⟨dst, .slice t x l u m, ty, pos, af, g⟩ :: rest) :: ks) fr h := k
theorem X.atAppend {args : Array Operand} {ats : Array TypeId} (k : X P E n post dec (.ops false os (⟨dst, .call ⟨.builtin .append, args, ats⟩, ty, pos, af, g⟩ :: rest) :: ks) fr h) : X P E n post dec (.ops false os (⟨dst, .call ⟨.builtin .append, args, ats⟩, ty, pos, af, g⟩ :: rest) :: ks) fr h := k
theorem X.atCond {c : Operand} {x y : Code} (k : X P E n post dec (.code (.cond c x y) :: ks) fr h) : X P E n post dec (.code (.cond c x y) :: ks) fr h := k
theorem X.atRet (k : X P E n post dec (.code .ret :: ks) fr h) : X P E n post dec (.code .ret :: ks) fr h := k
theorem X.atGuard {op : Op} {j : Nat} {b : Bool} (k : X P E n post dec (.ops q os (⟨dst, op, ty, pos, af, some (j, b)⟩ :: rest) :: ks) fr h) : X P E n post dec (.ops q os (⟨dst, op, ty, pos, af, some (j, b)⟩ :: rest) :: ks) fr h := k
theorem X.atCall (f : FuncId) {args : Array Operand} {ats : Array TypeId} (k : X P E n post dec (.ops q os (⟨dst, .call ⟨.value (.func f), args, ats⟩, ty, pos, af, g⟩ :: rest) :: ks) fr h) : X P E n post dec (.ops q os (⟨dst, .call ⟨.value (.func f), args, ats⟩, ty, pos, af, g⟩ :: rest) :: ks) fr h := k
theorem X.atDraw {id : Nat} (k : X P E n post dec (.code (.region id os true) :: ks) fr h) : X P E n post dec (.code (.region id os true) :: ks) fr h := k
end
end Go.SX
