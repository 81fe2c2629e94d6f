/- A part of the proofs of this seat's statements: lemmas and contracts, each with its own premises. -/
import Derived.Test.YtddndccbdglmdaaSX5
import Derived.Laws.AppendOwn
namespace Go.SX
def gsetF {β : Type} : List (Nat × Obj) → Nat → Obj → (List (Nat × Obj) → β) → β
  | [], _, _, k => k []
  | (b, _) :: l, 0, o, k => k ((b, o) :: l)
  | a :: l, n + 1, o, k => gsetF l n o fun l' => k (a :: l')
theorem gsetF_eq {β : Type} (l : List (Nat × Obj)) : ∀ (i : Nat) (o : Obj) (k : List (Nat × Obj) → β), gsetF l i o k = k (gset l i o) := by
  induction l with
  | nil => intro i o k; cases i <;> rfl
  | cons a l ih => intro i o k; cases i <;> simp [gsetF, gset, ih]
def setL : Nat → List Value → List Value → (List Value → Option (List Value)) → Option (List Value)
  | 0, [], cs, k => force cs k
  | 0, v :: vs, _ :: cs, k => setL 0 vs cs fun l => k (v :: l)
  | 0, _ :: _, [], _ => none
  | m + 1, vs, c :: cs, k => setL m vs cs fun l => k (c :: l)
  | _ + 1, _, [], _ => none
theorem setL_eq (off : Nat) (vs cs : List Value) : ∀ (k : List Value → Option (List Value)) (r : List Value), setL off vs cs k = some r →
    off + vs.length ≤ cs.length ∧ k (cs.take off ++ vs ++ cs.drop (off + vs.length)) = some r := by
  induction cs generalizing off vs with
  | nil =>
    intro k r h
    cases off with
    | zero => cases vs with
      | nil => simpa [setL, force_eq] using h
      | cons v vs => simp [setL] at h
    | succ m => simp [setL] at h
  | cons c cs ih =>
    intro k r h
    cases off with
    | zero => cases vs with
      | nil => simpa [setL, force_eq] using h
      | cons v vs =>
        simp only [setL] at h
        obtain ⟨h1, h2⟩ := ih 0 vs _ _ h
        refine ⟨by simp at h1 ⊢; omega, ?_⟩
        simpa [Nat.add_comm] using h2
    | succ m =>
      simp only [setL] at h
      obtain ⟨h1, h2⟩ := ih m vs _ _ h
      refine ⟨by simp at h1 ⊢; omega, ?_⟩
      rw [show m + 1 + vs.length = (m + vs.length) + 1 from by omega]
      simpa using h2
def allOne : List Value → Bool
  | [] => true
  | v :: l => match v with
    | .agg _ => false
    | .tuple _ => false
    | _ => allOne l
theorem allOne_eq {l : List Value} (h : allOne l = true) : ∀ u ∈ l, u.oneCell' = true := by
  induction l with
  | nil => simp
  | cons v l ih =>
    intro u hu
    rcases List.mem_cons.1 hu with rfl | hu
    · cases u <;> first | rfl | simp [allOne] at h
    · refine ih ?_ u hu
      cases v <;> first | exact h | simp [allOne] at h

section
variable {P : Program} {E : Env} {n : Nat} {post : Exit → Act → World → Prop} {dec : List Nat} {ks : List K} {fr : Fr} {h : Heap}
variable {q : Bool} {os : Array Oper} {rest : List Oper} {h0 : Heap} {M : Nat → Prop} {L : List (Nat × Obj)}
variable {ty : TypeId} {pos : String} {af : Array Edge} {g : Option (Nat × Bool)} {dst : Option Nat}

def hrow (h : Heap) (b : Nat) (cs : Array Value) : Heap := ((Env.mk 0 (fun _ _ => 0) default #[]).w h 0 |>.setRow b cs).heap
theorem setRow_w (E : Env) (h : Heap) (d b : Nat) (cs : Array Value) : (E.w h d).setRow b cs = E.w (hrow h b cs) d := rfl
theorem hrow_size (h : Heap) (b : Nat) (cs : Array Value) : (hrow h b cs).size = h.size := by simp [hrow, World.setRow, Env.w]
theorem hrow_at {h : Heap} {b : Nat} {cur cs : Array Value} {e : TypeId} {fz : Nat × Nat} (hb : h[b]? = some (.cells cur e fz)) : (hrow h b cs)[b]? = some (.cells cs e fz) :=
  setRow_heap ((Env.mk 0 (fun _ _ => 0) default #[]).w h 0) b cur cs e fz hb
theorem hrow_ne {h : Heap} {b k : Nat} {cs : Array Value} (hk : k ≠ b) : (hrow h b cs)[k]? = h[k]? :=
  setRow_other ((Env.mk 0 (fun _ _ => 0) default #[]).w h 0) b k cs hk
theorem GoodH.row (gd : GoodH h0 M L h) {i b : Nat} {cur : Array Value} {e : TypeId} {fz : Nat × Nat} (hi : gnth L i = some (b, .cells cur e fz)) (cs : Array Value) :
    GoodH h0 M (gset L i (.cells cs e fz)) (hrow h b cs) := gd.setObj hi (hrow_size h b cs) (hrow_at (gd.at hi)) fun _ hk => hrow_ne hk

theorem run_storeVar {t : TypeId} {ti : TI} (ht : TOk P t ti) {b off : Nat} {cur : Array Value} {e : TypeId} {v : Value} {d : Nat} (hb : h[b]? = some (.cells cur e (0, 0)))
    (hs : v.cells.size = ti.size) (hfit : off + v.cells.size ≤ cur.size) (h1 : ∀ u ∈ v.cells.toList, u.oneCell' = true) :
    (storeVar t ⟨b, off, none⟩ v).run P (E.w h d) = .ok () (E.w (hrow h b (cur.toList.take off ++ v.cells.toList ++ cur.toList.drop (off + v.cells.size)).toArray) d) := by
  unfold storeVar
  rw [run_bind', ht.run_sizeOf]
  simp only [hs, ne_eq, not_true_eq_false, if_false]
  have := run_storeCells_at P b off e v.cells.toList 0 cur (E.w h d) hb (by simpa using hfit) h1
  simp only [Nat.add_zero, Array.length_toList, setRow_w] at this
  rw [← hs]
  exact this
theorem X.storeG (T : Tbl P) {t : TypeId} {x y : Operand} {ti : TI} {b off : Nat} {cur : Array Value} {e : TypeId} {v : Value}
    (hw : wantF os g fr = some true) (hd : dstOk n dst = true) (hT : T.T t = some ti) (hx : evalO fr x = some (.pointer (some ⟨b, off, none⟩))) (hy : evalO fr y = some v)
    (hb : h[b]? = some (.cells cur e (0, 0))) (hs : v.cells.size = ti.size) (hfit : off + v.cells.size ≤ cur.size) (h1 : ∀ u ∈ v.cells.toList, u.oneCell' = true)
    (k : X P E n post dec (.ops false os rest :: ks) (putF dst undef fr) (hrow h b (cur.toList.take off ++ v.cells.toList ++ cur.toList.drop (off + v.cells.size)).toArray)) :
    X P E n post dec (.ops false os (⟨dst, .store t x y, ty, pos, af, g⟩ :: rest) :: ks) fr h := by
  refine X.opSkipNext hw hd fun ac d h0d ha => ⟨_, d, h0d, ?_, k⟩
  simp only [execOp, run_bind', ha.eval hx, ha.eval hy, Instr.storeAt, Instr.sureAddr, run_pure', run_storeVar (T.ok _ _ hT) hb hs hfit h1]
/-- A store into a block of the call's own, written out. -/
theorem X.storeL (T : Tbl P) (gd : GoodH h0 M L h) (i : Nat) {t : TypeId} {x y : Operand} {ti : TI} {b off : Nat} {cur : Array Value} {e : TypeId} {v : Value} {vs cs' : List Value} {L' : List (Nat × Obj)}
    (hw : wantF os g fr = some true) (hd : dstOk n dst = true) (hT : T.T t = some ti) (hx : evalO fr x = some (.pointer (some ⟨b, off, none⟩))) (hy : evalO fr y = some v)
    (hi : gnth L i = some (b, .cells cur e (0, 0))) (hvs : force v.cells.toList some = some vs) (hs : vs.length = ti.size) (hset : setL off vs cur.toList some = some cs') (h1 : allOne vs = true)
    (hL : gsetF L i (.cells cs'.toArray e (0, 0)) some = some L')
    (k : ∀ h', GoodH h0 M L' h' → X P E n post dec (.ops false os rest :: ks) (putF dst undef fr) h') :
    X P E n post dec (.ops false os (⟨dst, .store t x y, ty, pos, af, g⟩ :: rest) :: ks) fr h := by
  rw [force_eq, Option.some.injEq] at hvs
  subst hvs
  obtain ⟨hle, hcs⟩ := setL_eq _ _ _ _ _ hset
  simp only [Array.length_toList] at hle hs hcs
  refine X.storeG T hw hd hT hx hy (gd.at hi) hs hle (allOne_eq h1) ?_
  refine k _ ?_
  rw [gsetF_eq, Option.some.injEq] at hL
  subst hL
  simp only [Option.some.injEq] at hcs
  rw [hcs]
  exact gd.row hi _
/-- A store of one cell into a row of the call's own. -/
theorem X.store1 (T : Tbl P) (gd : GoodH h0 M L h) (i : Nat) {t : TypeId} {x y : Operand} {ti : TI} {b off : Nat} {cur : Array Value} {e : TypeId} {v : Value} {L' : List (Nat × Obj)}
    (hw : wantF os g fr = some true) (hd : dstOk n dst = true) (hT : T.T t = some ti) (hx : evalO fr x = some (.pointer (some ⟨b, off, none⟩))) (hy : evalO fr y = some v)
    (hi : gnth L i = some (b, .cells cur e (0, 0))) (hvs : v.cells.toList = [v]) (hs : ti.size = 1) (hoff : off < cur.size) (h1 : allOne [v] = true)
    (hL : gsetF L i (.cells (cur.setIfInBounds off v) e (0, 0)) some = some L')
    (k : ∀ h', GoodH h0 M L' h' → X P E n post dec (.ops false os rest :: ks) (putF dst undef fr) h') :
    X P E n post dec (.ops false os (⟨dst, .store t x y, ty, pos, af, g⟩ :: rest) :: ks) fr h := by
  have hsz : v.cells.size = 1 := by rw [← Array.length_toList, hvs]; rfl
  refine X.storeG T hw hd hT hx hy (gd.at hi) (by rw [hsz, hs]) (by omega) (by rw [hvs]; exact allOne_eq h1) ?_
  refine k _ ?_
  rw [gsetF_eq, Option.some.injEq] at hL
  subst hL
  rw [hvs, hsz]
  have : (cur.toList.take off ++ [v] ++ cur.toList.drop (off + 1)).toArray = cur.setIfInBounds off v := by
    apply Array.ext'
    simp only [Array.toList_setIfInBounds]
    rw [List.set_eq_take_append_cons_drop, if_pos (by simpa using hoff)]
    simp
  rw [this]
  exact gd.row hi _
theorem X.loadL (T : Tbl P) (gd : GoodH h0 M L h) (i : Nat) {t : TypeId} {x : Operand} {ti : TI} {b off : Nat} {cs : Array Value} {e : TypeId} {fz : Nat × Nat} {v : Value}
    (hw : wantF os g fr = some true) (hd : dstOk n dst = true) (hT : T.T t = some ti) (hx : evalO fr x = some (.pointer (some ⟨b, off, none⟩)))
    (hi : gnth L i = some (b, .cells cs e fz)) (hv : rdL ti cs.toList off = some v)
    (k : X P E n post dec (.ops q os rest :: ks) (putF dst v fr) h) :
    X P E n post dec (.ops q os (⟨dst, .load t x, ty, pos, af, g⟩ :: rest) :: ks) fr h := X.load T hw hd hT hx (rdL_RdH (gd.at hi) hv) k
/-- A load of one cell of a row of the call's own. -/
theorem X.loadR (T : Tbl P) (gd : GoodH h0 M L h) (i : Nat) {t : TypeId} {x : Operand} {ti : TI} {b off : Nat} {cur : Array Value} {e : TypeId} {fz : Nat × Nat} {v : Value}
    (hw : wantF os g fr = some true) (hd : dstOk n dst = true) (hT : T.T t = some ti) (hag : ti.agg = false) (hx : evalO fr x = some (.pointer (some ⟨b, off, none⟩)))
    (hi : gnth L i = some (b, .cells cur e fz)) (hv : cur[off]? = some v)
    (k : X P E n post dec (.ops q os rest :: ks) (putF dst v fr) h) :
    X P E n post dec (.ops q os (⟨dst, .load t x, ty, pos, af, g⟩ :: rest) :: ks) fr h := X.load T hw hd hT hx (by unfold RdH; rw [hag]; exact (hcell_of (gd.at hi)).trans hv) k
/-- A load of one cell of what came in. -/
theorem X.loadA (T : Tbl P) (gd : GoodH h0 M L h) {t : TypeId} {x : Operand} {ti : TI} {a : Addr} {v : Value}
    (hw : wantF os g fr = some true) (hd : dstOk n dst = true) (hT : T.T t = some ti) (hx : evalO fr x = some (.pointer (some a)))
    (hv : RdH ti h0 a v) (hlt : a.block < h0.size) (hM : ¬ M a.block)
    (k : X P E n post dec (.ops q os rest :: ks) (putF dst v fr) h) :
    X P E n post dec (.ops q os (⟨dst, .load t x, ty, pos, af, g⟩ :: rest) :: ks) fr h := X.load T hw hd hT hx (hv.same (gd.old _ hlt hM)) k

theorem X.box (gd : GoodH h0 M L h) {t : TypeId} {x : Operand} {v : Value} {vs : List Value} (hw : wantF os g fr = some true) (hd : dstOk n dst = true) (hx : evalO fr x = some v) (hvs : force v.cells.toList some = some vs)
    (k : ∀ b h', GoodH h0 M ((b, .cells vs.toArray t (0, 0)) :: L) h' → X P E n post dec (.ops false os rest :: ks) (putF dst (.pointer (some ⟨b, 0, none⟩)) fr) h') :
    X P E n post dec (.ops false os (⟨dst, .box t x, ty, pos, af, g⟩ :: rest) :: ks) fr h := by
  rw [force_eq, Option.some.injEq] at hvs
  subst hvs
  refine X.opVal hw hd fun ac d h0d ha => ⟨_, _, d, h0d, ?_, k h.size _ (gd.push _)⟩
  simp only [execOp, run_bind', ha.eval hx, Instr.box, newVar, newRow, newObj, Sem.run, run_pure', Array.toArray_toList]
  rfl
theorem X.alloc (T : Tbl P) (gd : GoodH h0 M L h) {t : TypeId} {ti : TI} {vs : List Value} (hw : wantF os g fr = some true) (hd : dstOk n dst = true) (hT : T.T t = some ti) (hvs : force ti.zero.cells.toList some = some vs)
    (k : ∀ b h', GoodH h0 M ((b, .cells vs.toArray t (0, 0)) :: L) h' → X P E n post dec (.ops false os rest :: ks) (putF dst (.pointer (some ⟨b, 0, none⟩)) fr) h') :
    X P E n post dec (.ops false os (⟨dst, .alloc t, ty, pos, af, g⟩ :: rest) :: ks) fr h := by
  rw [force_eq, Option.some.injEq] at hvs
  subst hvs
  refine X.opVal hw hd fun ac d h0d ha => ⟨_, _, d, h0d, ?_, k h.size _ (gd.push _)⟩
  simp only [execOp, run_bind', Instr.alloc, (T.ok _ _ hT).run_zero, newVar, newRow, newObj, Sem.run, run_pure', Array.toArray_toList]
  rfl

/-- The address of a slice's element. -/
theorem X.indexS (T : Tbl P) {t e : TypeId} {x ix : Operand} {s1 s2 : Nat} {z : Value} {te : TI} {b off len cap : Nat} {kk : IntKind} {i : Int} (j : Nat) (hw : wantF os g fr = some true) (hd : dstOk n dst = true)
    (hT : T.T t = some ⟨.slice e, s1, s2, z⟩) (hTe : T.T e = some te) (hx : evalO fr x = some (.slice (some ⟨b, off, none⟩) len cap)) (hix : evalO fr ix = some (.int kk i)) (hij : i = (j : Int)) (hj : j < len)
    (k : X P E n post dec (.ops q os rest :: ks) (putF dst (.pointer (some ⟨b, off + j * te.size, none⟩)) fr) h) :
    X P E n post dec (.ops q os (⟨dst, .indexAddr t x ix, ty, pos, af, g⟩ :: rest) :: ks) fr h := by
  subst hij
  refine X.val hw hd (fun ac d ha => ?_) k
  have h1 : (0 : Int) ≤ (j : Int) ∧ (j : Int) < (len : Int) := by omega
  simp only [execOp, run_bind', ha.eval hx, ha.eval hix, Instr.indexAt, asIntOf, run_pure', run_und (und_slice (T.ok _ _ hT) rfl), if_pos h1, (T.ok _ _ hTe).run_sizeOf, Int.toNat_natCast, add_plain]
theorem X.indexArr (T : Tbl P) {t e : TypeId} {x ix : Operand} {s1 s2 : Nat} {z : Value} {te : TI} {b off len : Nat} {kk : IntKind} {i : Int} (j : Nat) (hw : wantF os g fr = some true) (hd : dstOk n dst = true)
    (hT : T.T t = some ⟨.arr len e, s1, s2, z⟩) (hTe : T.T e = some te) (hx : evalO fr x = some (.pointer (some ⟨b, off, none⟩))) (hix : evalO fr ix = some (.int kk i)) (hij : i = (j : Int)) (hj : j < len)
    (k : X P E n post dec (.ops q os rest :: ks) (putF dst (.pointer (some ⟨b, off + j * te.size, none⟩)) fr) h) :
    X P E n post dec (.ops q os (⟨dst, .indexAddr t x ix, ty, pos, af, g⟩ :: rest) :: ks) fr h := by
  subst hij
  refine X.val hw hd (fun ac d ha => ?_) k
  have h1 : (0 : Int) ≤ (j : Int) ∧ (j : Int) < (len : Int) := by omega
  simp only [execOp, run_bind', ha.eval hx, ha.eval hix, Instr.indexAt, asIntOf, run_pure', Instr.sureAddr, run_und (und_arr (T.ok _ _ hT) rfl), if_pos h1, (T.ok _ _ hTe).run_sizeOf, Int.toNat_natCast, add_plain]

/-- A cut of a slice. -/
theorem X.sliceS (T : Tbl P) {t e : TypeId} {x : Operand} {lo hi : Option Operand} {s1 s2 : Nat} {z : Value} {te : TI} {a : Option Addr} {len cap : Nat} (l u : Nat) (hw : wantF os g fr = some true) (hd : dstOk n dst = true)
    (hT : T.T t = some ⟨.slice e, s1, s2, z⟩) (hTe : T.T e = some te) (hx : evalO fr x = some (.slice a len cap))
    (hlo : match lo with | some y => ∃ kk, evalO fr y = some (.int kk (l : Int)) | none => l = 0) (hhi : match hi with | some y => ∃ kk, evalO fr y = some (.int kk (u : Int)) | none => u = len)
    (hlu : l ≤ u) (huc : u ≤ cap)
    (k : X P E n post dec (.ops q os rest :: ks) (putF dst (.slice (if cap = l then a else a.map (·.add (l * te.size))) (u - l) (cap - l)) fr) h) :
    X P E n post dec (.ops q os (⟨dst, .slice t x lo hi none, ty, pos, af, g⟩ :: rest) :: ks) fr h := by
  refine X.val hw hd (fun ac d ha => ?_) k
  have hu := und_slice (T.ok _ _ hT) rfl
  have hsz := fun d => (T.ok _ _ hTe).run_sizeOf (w := E.w h d)
  have b1 : (0 : Int) ≤ (l : Int) ∧ (l : Int) ≤ (u : Int) := by omega
  have b2 : (0 : Int) ≤ (u : Int) ∧ (u : Int) ≤ (cap : Int) := by omega
  cases lo with
  | none =>
    simp only at hlo
    subst hlo
    cases hi with
    | none =>
      simp only at hhi
      subst hhi
      simp [execOp, ha.eval hx, Instr.sliceAt, Instr.slice, Instr.sliceBounds, run_und hu, hsz]
    | some y =>
      obtain ⟨kk, hy⟩ := hhi
      simp [execOp, ha.eval hx, ha.eval hy, Instr.sliceAt, Instr.slice, Instr.sliceBounds, Instr.sliceBound, asIntOf, run_und hu, hsz, huc]
  | some y =>
    obtain ⟨kk, hy⟩ := hlo
    cases hi with
    | none =>
      simp only at hhi
      subst hhi
      simp [execOp, ha.eval hx, ha.eval hy, Instr.sliceAt, Instr.slice, Instr.sliceBounds, Instr.sliceBound, asIntOf, run_und hu, hsz, hlu]
    | some y' =>
      obtain ⟨kk', hy'⟩ := hhi
      simp [execOp, ha.eval hx, ha.eval hy, ha.eval hy', Instr.sliceAt, Instr.slice, Instr.sliceBounds, Instr.sliceBound, asIntOf, run_und hu, hsz, hlu, huc]
end
end Go.SX
