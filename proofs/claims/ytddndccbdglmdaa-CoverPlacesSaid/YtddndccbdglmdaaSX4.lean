/- A part of the proofs of this seat's statements: lemmas and contracts, each with its own premises. -/
import Derived.Test.YtddndccbdglmdaaSX3
namespace Go.SX
/-- whether an operation is carried out, if its guard is one of the slots that are told. -/
def wantD (dec : List Nat) (os : Array Oper) (g : Option (Nat × Bool)) (fr : Fr) : Option Bool :=
  match g with
  | none => some true
  | some (j, want) => match lnthO os.toList j with
    | some o => match o.dst with
      | some d => match lget fr d with
        | some (.tuple _) => some false
        | some (.bool b) => match memN d dec with
          | true => match b with
            | true => some want
            | false => some (!want)
          | false => none
        | _ => none
      | none => none
    | none => none
where
  lnthO : List Oper → Nat → Option Oper
    | [], _ => none
    | a :: _, 0 => some a
    | _ :: l, n + 1 => lnthO l n
theorem lnthO_eq (l : List Oper) (n : Nat) : wantD.lnthO l n = l[n]? := by
  induction l generalizing n with
  | nil => simp [wantD.lnthO]
  | cons a l ih => cases n <;> simp [wantD.lnthO, ih]
theorem wantD_F {dec os g fr b} (h : wantD dec os g fr = some b) : wantF os g fr = some b := by
  unfold wantD at h
  unfold wantF
  split at h
  · exact h
  · split at h <;> try simp at h
    rename_i o ho
    rw [lnthO_eq] at ho
    rw [Array.getElem?_toList] at ho
    split at h <;> try simp at h
    rename_i d hd
    split at h <;> try simp at h
    · rename_i vs hl
      subst h
      simp only [ho, hd, hl]
    · rename_i b' hl
      split at h <;> try simp at h
      simp only [ho, hd, hl]
      cases b' <;> simp at h <;> subst h <;> simp
/-- As far as it goes without memory, calls and tests. -/
def run (dec : List Nat) (T : TypeId → Option TI) (n : Nat) : Nat → List K → Fr → List K × Fr
  | 0, ks, fr => (ks, fr)
  | m + 1, ks, fr => match ks with
    | [] => ([], fr)
    | .ops _ _ [] :: ks => run dec T n m ks fr
    | .ops q os (o :: rest) :: ks => match wantD dec os o.guard fr with
      | some true => match pureOp T fr o.op with
        | some v => match o.dst with
          | some d => match Nat.blt d n with
            | true => run dec T n m (.ops q os rest :: ks) ((d, v) :: fr)
            | false => (.ops q os (o :: rest) :: ks, fr)
          | none => run dec T n m (.ops q os rest :: ks) fr
        | none => (.ops q os (o :: rest) :: ks, fr)
      | some false => match o.dst with
        | some d => match Nat.blt d n with
          | true => run dec T n m (.ops q os rest :: ks) ((d, undef) :: fr)
          | false => (.ops q os (o :: rest) :: ks, fr)
        | none => run dec T n m (.ops q os rest :: ks) fr
      | none => (.ops q os (o :: rest) :: ks, fr)
    | .blk _ :: ks => run dec T n m ks fr
    | .fin J :: ks => (.fin J :: ks, fr)
    | .code c :: ks => match c with
      | .seq a b => run dec T n m (.code a :: .code b :: ks) fr
      | .skip => run dec T n m ks fr
      | .label _ => run dec T n m ks fr
      | .block id c => run dec T n m (.code c :: .blk id :: ks) fr
      | .region _ os false => run dec T n m (.ops false os os.toList :: ks) fr
      | .exit id => match drop id ks with
        | some ks' => run dec T n m ks' fr
        | none => (.code (.exit id) :: ks, fr)
      | c => (.code c :: ks, fr)

section
variable {P : Program} {E : Env} {n : Nat} {post : Exit → Act → World → Prop} {dec : List Nat}
theorem X.pure (T : Tbl P) {q : Bool} {os : Array Oper} {o : Oper} {rest : List Oper} {ks : List K} {fr : Fr} {h : Heap} {v : Value} (hw : wantF os o.guard fr = some true) (hd : dstOk n o.dst = true)
    (hv : pureOp T.T fr o.op = some v) (k : X P E n post dec (.ops q os rest :: ks) (putF o.dst v fr) h) : X P E n post dec (.ops q os (o :: rest) :: ks) fr h :=
  X.val hw hd (fun _ _ ha => pureOp_run T ha hv) k

theorem X.run' (T : Tbl P) (m : Nat) : ∀ {ks : List K} {fr : Fr} {h : Heap}, X P E n post dec (run dec T.T n m ks fr).1 (run dec T.T n m ks fr).2 h → X P E n post dec ks fr h := by
  induction m with
  | zero => intro ks fr h k; exact k
  | succ m ih =>
    intro ks fr h k
    unfold run at k
    split at k
    · exact k
    · exact X.opsNil (ih k)
    · rename_i q os o rest ks
      split at k
      · rename_i hw
        have hw := wantD_F hw
        split at k
        · rename_i v hv
          split at k
          · rename_i d hd
            split at k
            · rename_i hb
              refine X.pure T hw (by rw [hd]; exact hb) hv ?_
              rw [hd]; exact ih k
            · exact k
          · rename_i hd
            refine X.pure T hw (by rw [hd]; rfl) hv ?_
            rw [hd]; exact ih k
        · exact k
      · rename_i hw
        have hw := wantD_F hw
        split at k
        · rename_i d hd
          split at k
          · rename_i hb
            refine X.opSkip hw (by rw [hd]; exact hb) ?_
            rw [hd]; exact ih k
          · exact k
        · rename_i hd
          refine X.opSkip hw (by rw [hd]; rfl) ?_
          rw [hd]; exact ih k
      · exact k
    · exact X.blk (ih k)
    · exact k
    · split at k
      · exact X.seq (ih k)
      · exact X.skip (ih k)
      · exact X.label (ih k)
      · exact X.block (ih k)
      · exact X.region (ih k)
      · split at k
        · rename_i hd
          exact X.exit hd (ih k)
        · exact k
      · exact k
theorem X.run (T : Tbl P) (m : Nat) {ks ks' : List K} {fr fr' : Fr} {h : Heap} (he : SX.run dec T.T n m ks fr = (ks', fr')) (k : X P E n post dec ks' fr' h) : X P E n post dec ks fr h :=
  X.run' T m (by rw [he]; exact k)

/-- may a step be taken? -/
def canRun (dec : List Nat) (T : TypeId → Option TI) (n : Nat) (ks : List K) (fr : Fr) : Bool :=
  match ks with
  | .ops _ _ [] :: _ => true
  | .ops _ os (o :: _) :: _ => match wantD dec os o.guard fr with
    | some true => match pureOp T fr o.op with
      | some _ => dstOk n o.dst
      | none => false
    | some false => dstOk n o.dst
    | none => false
  | .blk _ :: _ => true
  | .code c :: _ => match c with
    | .seq _ _ => true
    | .skip => true
    | .label _ => true
    | .block _ _ => true
    | .region _ _ false => true
    | .exit _ => true
    | _ => false
  | _ => false
theorem X.runP (T : Tbl P) (m : Nat) {ks ks' : List K} {fr fr' : Fr} {h : Heap} (_hc : canRun dec T.T n ks fr = true) (he : SX.run dec T.T n m ks fr = (ks', fr')) (k : X P E n post dec ks' fr' h) : X P E n post dec ks fr h :=
  X.run T m he k

/-- The results, where none lies in memory. -/
def resF (fr : Fr) : List ResultVar → Option Value
  | [] => some (.tuple #[])
  | [.tmp t] => lget fr t
  | [.tmp t, .tmp u] => match lget fr t, lget fr u with
    | some v, some x => some (.tuple #[v, x])
    | _, _ => none
  | [.tmp t, .tmp u, .tmp s] => match lget fr t, lget fr u, lget fr s with
    | some v, some x, some y => some (.tuple #[v, x, y])
    | _, _, _ => none
  | _ => none
def postOf (P : Program) (E : Env) (fn : Func) (R : Value → Heap → Prop) : Exit → Act → World → Prop :=
  bodyPost P fn fun e w' => ∃ v h' d', E.d0 ≤ d' ∧ e = .returned v ∧ w' = E.w h' d' ∧ R v h'

def pairs : Nat → List Value → Fr
  | _, [] => []
  | i, v :: l => (i, v) :: pairs (i + 1) l
theorem lget_pairs (l : List Value) : ∀ i j v, lget (pairs i l) j = some v → i ≤ j ∧ l[j - i]? = some v := by
  induction l with
  | nil => intro i j v h; simp [pairs, lget] at h
  | cons a l ih =>
    intro i j v h
    simp only [pairs, lget] at h
    cases hb : Nat.beq j i with
    | true => rw [hb] at h; have := Nat.eq_of_beq_eq_true hb; subst this; simpa using h
    | false =>
      rw [hb] at h
      obtain ⟨h1, h2⟩ := ih _ _ _ h
      refine ⟨by omega, ?_⟩
      rw [show j - i = (j - (i + 1)) + 1 from by omega]
      simpa using h2

theorem Ct.enter {f : FuncId} {fn : Func} {c : Code} {args : List Value} {h : Heap} {R : Value → Heap → Prop} (hf : P.funcs[f]? = some fn) (hb : fn.body = some c)
    (hn : args.length ≤ fn.ntmps)
    (k : X P E fn.ntmps (postOf P E fn R) [] [.code c] (pairs 0 args) h) : Ct P E f args.toArray h R := by
  intro d h0d
  refine calls_of_wp hf hb ?_
  refine k _ d h0d ⟨rfl, by simp; omega, fun i v hv => ?_⟩
  obtain ⟨_, hv⟩ := lget_pairs _ _ _ _ hv
  simp only [Nat.sub_zero] at hv
  have hi : i < args.length := (List.getElem?_eq_some_iff.1 hv).1
  simp only [List.size_toArray, Array.getElem?_append, hi, if_true]
  simpa using hv

theorem Ct.enter0 {f : FuncId} {fn : Func} {c : Code} {h : Heap} {R : Value → Heap → Prop} (hf : P.funcs[f]? = some fn) (hb : fn.body = some c) {m : Nat} (hm : fn.ntmps = m)
    (hn : Nat.ble 0 m = true) (k : X P E m (postOf P E fn R) [] [.code c] [] h) : Ct P E f #[] h R := by
  subst hm
  exact Ct.enter (args := []) hf hb (Nat.le_of_ble_eq_true hn) k
theorem Ct.enter1 {f : FuncId} {fn : Func} {c : Code} {h : Heap} {R : Value → Heap → Prop} {v0 : Value} (hf : P.funcs[f]? = some fn) (hb : fn.body = some c) {m : Nat} (hm : fn.ntmps = m)
    (hn : Nat.ble 1 m = true) (k : X P E m (postOf P E fn R) [] [.code c] [(0, v0)] h) : Ct P E f #[v0] h R := by
  subst hm
  exact Ct.enter (args := [v0]) hf hb (Nat.le_of_ble_eq_true hn) k
theorem Ct.enter2 {f : FuncId} {fn : Func} {c : Code} {h : Heap} {R : Value → Heap → Prop} {v0 v1 : Value} (hf : P.funcs[f]? = some fn) (hb : fn.body = some c) {m : Nat} (hm : fn.ntmps = m)
    (hn : Nat.ble 2 m = true) (k : X P E m (postOf P E fn R) [] [.code c] [(0, v0), (1, v1)] h) : Ct P E f #[v0, v1] h R := by
  subst hm
  exact Ct.enter (args := [v0, v1]) hf hb (Nat.le_of_ble_eq_true hn) k
theorem Ct.enter3 {f : FuncId} {fn : Func} {c : Code} {h : Heap} {R : Value → Heap → Prop} {v0 v1 v2 : Value} (hf : P.funcs[f]? = some fn) (hb : fn.body = some c) {m : Nat} (hm : fn.ntmps = m)
    (hn : Nat.ble 3 m = true) (k : X P E m (postOf P E fn R) [] [.code c] [(0, v0), (1, v1), (2, v2)] h) : Ct P E f #[v0, v1, v2] h R := by
  subst hm
  exact Ct.enter (args := [v0, v1, v2]) hf hb (Nat.le_of_ble_eq_true hn) k
theorem Ct.enter4 {f : FuncId} {fn : Func} {c : Code} {h : Heap} {R : Value → Heap → Prop} {v0 v1 v2 v3 : Value} (hf : P.funcs[f]? = some fn) (hb : fn.body = some c) {m : Nat} (hm : fn.ntmps = m)
    (hn : Nat.ble 4 m = true) (k : X P E m (postOf P E fn R) [] [.code c] [(0, v0), (1, v1), (2, v2), (3, v3)] h) : Ct P E f #[v0, v1, v2, v3] h R := by
  subst hm
  exact Ct.enter (args := [v0, v1, v2, v3]) hf hb (Nat.le_of_ble_eq_true hn) k
theorem Ct.enter5 {f : FuncId} {fn : Func} {c : Code} {h : Heap} {R : Value → Heap → Prop} {v0 v1 v2 v3 v4 : Value} (hf : P.funcs[f]? = some fn) (hb : fn.body = some c) {m : Nat} (hm : fn.ntmps = m)
    (hn : Nat.ble 5 m = true) (k : X P E m (postOf P E fn R) [] [.code c] [(0, v0), (1, v1), (2, v2), (3, v3), (4, v4)] h) : Ct P E f #[v0, v1, v2, v3, v4] h R := by
  subst hm
  exact Ct.enter (args := [v0, v1, v2, v3, v4]) hf hb (Nat.le_of_ble_eq_true hn) k
theorem Ct.enter6 {f : FuncId} {fn : Func} {c : Code} {h : Heap} {R : Value → Heap → Prop} {v0 v1 v2 v3 v4 v5 : Value} (hf : P.funcs[f]? = some fn) (hb : fn.body = some c) {m : Nat} (hm : fn.ntmps = m)
    (hn : Nat.ble 6 m = true) (k : X P E m (postOf P E fn R) [] [.code c] [(0, v0), (1, v1), (2, v2), (3, v3), (4, v4), (5, v5)] h) : Ct P E f #[v0, v1, v2, v3, v4, v5] h R := by
  subst hm
  exact Ct.enter (args := [v0, v1, v2, v3, v4, v5]) hf hb (Nat.le_of_ble_eq_true hn) k
theorem Ct.enter7 {f : FuncId} {fn : Func} {c : Code} {h : Heap} {R : Value → Heap → Prop} {v0 v1 v2 v3 v4 v5 v6 : Value} (hf : P.funcs[f]? = some fn) (hb : fn.body = some c) {m : Nat} (hm : fn.ntmps = m)
    (hn : Nat.ble 7 m = true) (k : X P E m (postOf P E fn R) [] [.code c] [(0, v0), (1, v1), (2, v2), (3, v3), (4, v4), (5, v5), (6, v6)] h) : Ct P E f #[v0, v1, v2, v3, v4, v5, v6] h R := by
  subst hm
  exact Ct.enter (args := [v0, v1, v2, v3, v4, v5, v6]) hf hb (Nat.le_of_ble_eq_true hn) k
theorem Ct.enter8 {f : FuncId} {fn : Func} {c : Code} {h : Heap} {R : Value → Heap → Prop} {v0 v1 v2 v3 v4 v5 v6 v7 : Value} (hf : P.funcs[f]? = some fn) (hb : fn.body = some c) {m : Nat} (hm : fn.ntmps = m)
    (hn : Nat.ble 8 m = true) (k : X P E m (postOf P E fn R) [] [.code c] [(0, v0), (1, v1), (2, v2), (3, v3), (4, v4), (5, v5), (6, v6), (7, v7)] h) : Ct P E f #[v0, v1, v2, v3, v4, v5, v6, v7] h R := by
  subst hm
  exact Ct.enter (args := [v0, v1, v2, v3, v4, v5, v6, v7]) hf hb (Nat.le_of_ble_eq_true hn) k
theorem Agrees.tmp {fr : Fr} {a : Act} (ha : Agrees n a fr) {t : Nat} {v : Value} (h : lget fr t = some v) : a.tmps[t]?.getD undef = v := by
  rw [ha.2.2 t v h]; rfl
theorem results_run {fr : Fr} {a : Act} {fn : Func} {v : Value} {w : World} (ha : Agrees n a fr) (hr : resF fr fn.results.toList = some v) : (results fn a.tmps).run P w = .ok v w := by
  generalize hl : fn.results.toList = l at hr
  have hl' : fn.results = l.toArray := by apply Array.ext'; simpa using hl
  unfold resF at hr
  split at hr
  · simp at hr; subst hr; simp [results, hl']
  · simp [results, hl', ha.tmp hr]
  · split at hr <;> simp at hr
    rename_i h1 h2
    subst hr
    simp [results, hl', ha.tmp h1, ha.tmp h2]
  · split at hr <;> simp at hr
    rename_i h1 h2 h3
    subst hr
    simp [results, hl', ha.tmp h1, ha.tmp h2, ha.tmp h3]
  · simp at hr
theorem postOf_ret {fn : Func} {R : Value → Heap → Prop} {fr : Fr} {h : Heap} {v : Value} (hr : resF fr fn.results.toList = some v) (hR : R v h) {a : Act} {d : Nat} (h0d : E.d0 ≤ d) (ha : Agrees n a fr) :
    postOf P E fn R .ret a (E.w h d) := ⟨ha.1, v, results_run ha hr, v, h, d, h0d, rfl, rfl, hR⟩
theorem X.retV {fn : Func} {R : Value → Heap → Prop} {ks : List K} {fr : Fr} {h : Heap} {v : Value} (hr : resF fr fn.results.toList = some v) (hR : R v h) :
    X P E n (postOf P E fn R) dec (.code .ret :: ks) fr h := X.ret fun _ _ h0d ha => postOf_ret hr hR h0d ha
theorem X.endV {fn : Func} {R : Value → Heap → Prop} {fr : Fr} {h : Heap} {v : Value} (hr : resF fr fn.results.toList = some v) (hR : R v h) :
    X P E n (postOf P E fn R) dec [] fr h := X.done fun _ _ h0d ha => postOf_ret hr hR h0d ha
end
end Go.SX
