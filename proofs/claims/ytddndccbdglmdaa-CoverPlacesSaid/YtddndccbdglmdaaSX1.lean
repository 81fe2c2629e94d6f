/- A part of the proofs of this seat's statements: lemmas and contracts, each with its own premises. -/
import Derived.Calls
import Derived.Tactics
import Derived.Deep.Quiet
namespace Go.SX

abbrev Heap := Array Obj
abbrev Fr := List (Nat × Value)

/-- What does not change: the tape, the outside, the output. -/
structure Env where
  d0 : Nat
  tape : Nat → Question → Nat
  os : Os
  output : Array (Nat × ByteArray)
/-- The world of a heap and of a count of draws. -/
def Env.w (E : Env) (h : Heap) (d : Nat) : World := { heap := h, tape := E.tape, drawn := d, os := E.os, output := E.output }
theorem Env.of (w : World) : (Env.mk w.drawn w.tape w.os w.output).w w.heap w.drawn = w := rfl

/-- A function's contract: called over this heap it returns, however many draws there were. -/
def Ct (P : Program) (E : Env) (f : FuncId) (args : Array Value) (h : Heap) (R : Value → Heap → Prop) : Prop :=
  ∀ d, E.d0 ≤ d → Calls P f args (E.w h d) fun e w' => ∃ v h' d', E.d0 ≤ d' ∧ e = .returned v ∧ w' = E.w h' d' ∧ R v h'

theorem Ct.mono {P E f args h} {R R' : Value → Heap → Prop} (H : Ct P E f args h R) (hr : ∀ v h', R v h' → R' v h') : Ct P E f args h R' := by
  intro d h0d cs
  obtain ⟨e, w', fr, ⟨v, h', d', h0', he, hw, hR⟩, rest⟩ := H d h0d cs
  exact ⟨e, w', fr, ⟨v, h', d', h0', he, hw, hr _ _ hR⟩, rest⟩

def lget : Fr → Nat → Option Value
  | [], _ => none
  | (j, v) :: fr, i => match Nat.beq i j with
    | true => some v
    | false => lget fr i

def evalO (fr : Fr) : Operand → Option Value
  | .tmp t => lget fr t
  | .const v => some v
  | .global g => some (.pointer (some ⟨g, 0, none⟩))
  | .func f => some (.func (.func f) #[] #[])

/-- The frame is as told, at the slots that are told. -/
def Agrees (n : Nat) (a : Act) (fr : Fr) : Prop := a.defers = [] ∧ a.tmps.size = n ∧ ∀ i v, lget fr i = some v → a.tmps[i]? = some v

theorem Agrees.eval {n a fr} (h : Agrees n a fr) {x : Operand} {v : Value} (hx : evalO fr x = some v) : a.eval x = v := by
  cases x with
  | tmp t =>
    have := h.2.2 t v hx
    simp [Act.eval, Array.getD_eq_getD_getElem?, this]
  | const c => simpa [evalO, Act.eval] using hx
  | global g => simpa [evalO, Act.eval] using hx
  | func f => simpa [evalO, Act.eval] using hx

theorem Agrees.put {n a fr} (h : Agrees n a fr) {d : Nat} (hd : d < n) (v : Value) : Agrees n (a.put (some d) v) ((d, v) :: fr) := by
  refine ⟨h.1, by simp [Act.put, h.2.1], fun i u hu => ?_⟩
  simp only [lget] at hu
  simp only [Act.put, Array.getElem?_setIfInBounds]
  cases hb : Nat.beq i d with
  | true =>
    rw [hb] at hu
    have hid : i = d := Nat.eq_of_beq_eq_true hb
    subst hid
    have hs := h.2.1
    simp at hu
    simp [hs, hd, hu]
  | false =>
    rw [hb] at hu
    have hid : d ≠ i := fun e => by subst e; simp [Nat.beq_refl] at hb
    rw [if_neg hid]
    exact h.2.2 i u hu

theorem Agrees.weak {n a fr fr'} (h : Agrees n a fr) (hle : ∀ i v, lget fr' i = some v → lget fr i = some v) : Agrees n a fr' :=
  ⟨h.1, h.2.1, fun i v hv => h.2.2 i v (hle i v hv)⟩

/-- 'fr'' is told by 'fr'. -/
def frIn (fr : Fr) : Fr → Prop
  | [] => True
  | (i, v) :: r => lget fr i = some v ∧ frIn fr r
theorem frIn.le {fr fr' : Fr} (h : frIn fr fr') : ∀ i v, lget fr' i = some v → lget fr i = some v := by
  induction fr' with
  | nil => intro i v hv; simp [lget] at hv
  | cons p r ih =>
    obtain ⟨j, u⟩ := p
    intro i v hv
    simp only [lget] at hv
    cases hb : Nat.beq i j with
    | true => rw [hb] at hv; simp at hv; subst hv; rw [Nat.eq_of_beq_eq_true hb]; exact h.1
    | false => rw [hb] at hv; exact ih h.2 i v hv

/-- What is still to be run. -/
inductive K where
  | code (c : Code)
  | ops (q : Bool) (all : Array Oper) (rest : List Oper)
  | blk (id : Nat)
  | fin (J : Act → World → Prop)

def kQ (P : Program) (post : Exit → Act → World → Prop) : List K → Exit → Act → World → Prop
  | [], e, a, w => post e a w
  | .code c :: ks, .normal, a, w => c.wp P (kQ P post ks) a w
  | .ops false all rest :: ks, .normal, a, w => wpList P all (kQ P post ks) rest a w
  | .ops true all rest :: ks, .normal, a, w => wpQuiet P all (fun w' => ∃ d, w.drawn ≤ d ∧ w' = { w with drawn := d }) (fun a' => ∀ d, w.drawn ≤ d → kQ P post ks .normal a' { w with drawn := d }) rest a
  | .blk _ :: ks, .normal, a, w => kQ P post ks .normal a w
  | .blk id :: ks, .exit id', a, w => if id' = id then kQ P post ks .normal a w else kQ P post ks (.exit id') a w
  | .fin J :: _, .normal, a, w => J a w
  | _ :: ks, e, a, w => kQ P post ks e a w

theorem kQ_seq (P) (post) (y : Code) (ks : List K) : kQ P post (.code y :: ks) = Exit.then (y.wp P (kQ P post ks)) (kQ P post ks) := by
  funext e a w; cases e <;> rfl
theorem kQ_blk (P) (post) (id : Nat) (ks : List K) : kQ P post (.blk id :: ks) = Exit.inBlock id (kQ P post ks) := by
  funext e a w; cases e <;> rfl
theorem kQ_fin (P) (post) (J) (ks : List K) : kQ P post (.fin J :: ks) = Exit.then J (kQ P post ks) := by
  funext e a w; cases e <;> rfl
theorem kQ_ret (P) (post) (ks : List K) : kQ P post ks .ret = post .ret := by
  induction ks with
  | nil => rfl
  | cons k ks ih =>
    cases k with
    | ops q all r => cases q <;> exact ih
    | _ => exact ih

theorem wpQuiet_mono' {P : Program} {ops : Array Oper} {C : World → Prop} {Q Q' : Act → Prop} (hq : ∀ a, Q a → Q' a) {l : List Oper} {a : Act} (h : wpQuiet P ops C Q l a) : wpQuiet P ops C Q' l a := by
  induction l generalizing a with
  | nil => exact hq _ h
  | cons o l ih =>
    simp only [wpQuiet] at h ⊢
    by_cases hw : Region.wanted o (yielded ops a.tmps) = true
    · rw [if_pos hw] at h ⊢; exact Oper.quiet_mono (fun a h => ih h) h
    · rw [if_neg hw] at h ⊢; exact ih h
/-- From this frame and heap what is still to be run ends as 'post' says. -/
def X (P : Program) (E : Env) (n : Nat) (post : Exit → Act → World → Prop) (_dec : List Nat) (ks : List K) (fr : Fr) (h : Heap) : Prop :=
  ∀ a d, E.d0 ≤ d → Agrees n a fr → kQ P post ks .normal a (E.w h d)

section
variable {P : Program} {E : Env} {n : Nat} {post : Exit → Act → World → Prop} {dec : List Nat} {ks : List K} {fr : Fr} {h : Heap}

theorem X.weak {fr' : Fr} (hle : frIn fr fr') (k : X P E n post dec ks fr' h) : X P E n post dec ks fr h :=
  fun a d h0d ha => k a d h0d (ha.weak hle.le)
theorem X.seq {x y : Code} (k : X P E n post dec (.code x :: .code y :: ks) fr h) : X P E n post dec (.code (.seq x y) :: ks) fr h :=
  fun a d h0d ha => wp_seq (by have := k a d h0d ha; simp only [kQ] at this; rw [kQ_seq] at this; exact this)
theorem X.skip (k : X P E n post dec ks fr h) : X P E n post dec (.code .skip :: ks) fr h := fun a d h0d ha => wp_skip (k a d h0d ha)
theorem X.label {l} (k : X P E n post dec ks fr h) : X P E n post dec (.code (.label l) :: ks) fr h := fun a d h0d ha => wp_label (k a d h0d ha)
theorem X.block {id} {c : Code} (k : X P E n post dec (.code c :: .blk id :: ks) fr h) : X P E n post dec (.code (.block id c) :: ks) fr h :=
  fun a d h0d ha => wp_block (by have := k a d h0d ha; simp only [kQ] at this; rw [kQ_blk] at this; exact this)
theorem X.blk {id} (k : X P E n post dec ks fr h) : X P E n post dec (.blk id :: ks) fr h := fun a d h0d ha => k a d h0d ha
theorem X.region {id} {os : Array Oper} (k : X P E n post dec (.ops false os os.toList :: ks) fr h) : X P E n post dec (.code (.region id os false) :: ks) fr h :=
  fun a d h0d ha => wp_region_list (k a d h0d ha)
theorem X.regionQ {id} {os : Array Oper} (hm : P.follows .mixedOrders = true) (hB : Region.lexB .any os = true) (k : X P E n post dec (.ops true os os.toList :: ks) fr h) : X P E n post dec (.code (.region id os true) :: ks) fr h :=
  fun a d h0d ha => wp_region_quiet (C := fun w' => ∃ d', d ≤ d' ∧ w' = { E.w h d with drawn := d' }) hm hB ⟨d + 1, Nat.le_succ d, rfl⟩ (wpQuiet_mono' (fun a' h w' ⟨d', hd', hw'⟩ => by rw [hw']; exact h d' hd') (k a d h0d ha))
theorem X.opsNil {q : Bool} {os : Array Oper} (k : X P E n post dec ks fr h) : X P E n post dec (.ops q os [] :: ks) fr h := by
  intro a d h0d ha
  cases q with
  | false => exact wpList_nil (k a d h0d ha)
  | true => exact wpQuiet_nil fun d' hd' => k a d' (Nat.le_trans h0d hd') ha
theorem X.ret (k : ∀ a d, E.d0 ≤ d → Agrees n a fr → post .ret a (E.w h d)) : X P E n post dec (.code .ret :: ks) fr h :=
  fun a d h0d ha => wp_ret (by rw [kQ_ret]; exact k a d h0d ha)
theorem X.done (k : ∀ a d, E.d0 ≤ d → Agrees n a fr → post .normal a (E.w h d)) : X P E n post dec [] fr h := fun a d h0d ha => k a d h0d ha

/-- where an exit leads. -/
def drop (id : Nat) : List K → Option (List K)
  | [] => none
  | .blk id' :: ks => match Nat.beq id id' with
    | true => some ks
    | false => drop id ks
  | _ :: ks => drop id ks
theorem kQ_drop {id : Nat} {ks' : List K} (hd : drop id ks = some ks') : kQ P post ks (.exit id) = kQ P post ks' .normal := by
  induction ks with
  | nil => simp [drop] at hd
  | cons k ks ih =>
    cases k with
    | blk id' =>
      simp only [drop] at hd
      cases hb : Nat.beq id id' with
      | true =>
        rw [hb] at hd; simp at hd; subst hd
        have := Nat.eq_of_beq_eq_true hb; subst this
        funext a w; simp [kQ]
      | false =>
        rw [hb] at hd
        have hne : id ≠ id' := fun e => by subst e; simp [Nat.beq_refl] at hb
        funext a w; simp only [kQ, if_neg hne]; rw [ih hd]
    | code c => exact ih hd
    | ops q all r => cases q <;> exact ih hd
    | fin J => exact ih hd
theorem X.exit {id : Nat} {ks' : List K} (hd : drop id ks = some ks') (k : X P E n post dec ks' fr h) : X P E n post dec (.code (.exit id) :: ks) fr h :=
  fun a d h0d ha => wp_exit (by rw [kQ_drop hd]; exact k a d h0d ha)

theorem X.cond {c : Operand} {x y : Code} {b : Bool} (hc : evalO fr c = some (.bool b)) (kt : b = true → X P E n post dec (.code x :: ks) fr h)
    (kf : b = false → X P E n post dec (.code y :: ks) fr h) : X P E n post dec (.code (.cond c x y) :: ks) fr h :=
  fun a d h0d ha => wp_cond_split (ha.eval hc) (fun hb => kt hb a d h0d ha) (fun hb => kf hb a d h0d ha)
theorem X.cond_p {c : Operand} {x y : Code} {p : Prop} [Decidable p] (hc : evalO fr c = some (.bool (decide p))) (kt : p → X P E n post dec (.code x :: ks) fr h)
    (kf : ¬ p → X P E n post dec (.code y :: ks) fr h) : X P E n post dec (.code (.cond c x y) :: ks) fr h :=
  X.cond hc (fun hb => kt (of_decide_eq_true hb)) (fun hb => kf (of_decide_eq_false hb))
theorem X.cond_t {c : Operand} {x y : Code} (hc : evalO fr c = some (.bool true)) (kt : X P E n post dec (.code x :: ks) fr h) : X P E n post dec (.code (.cond c x y) :: ks) fr h :=
  X.cond hc (fun _ => kt) (fun hb => by cases hb)
theorem X.cond_f {c : Operand} {x y : Code} (hc : evalO fr c = some (.bool false)) (kf : X P E n post dec (.code y :: ks) fr h) : X P E n post dec (.code (.cond c x y) :: ks) fr h :=
  X.cond hc (fun hb => by cases hb) (fun _ => kf)

/-! operations -/
/-- whether the operation is carried out: none: not known. -/
def wantF (os : Array Oper) (g : Option (Nat × Bool)) (fr : Fr) : Option Bool :=
  match g with
  | none => some true
  | some (j, want) => match os[j]? with
    | some o => match o.dst with
      | some d => match lget fr d with
        | some (.bool b) => some (b == want)
        | some (.tuple _) => some false
        | _ => none
      | none => none
    | none => none
theorem wantF_eq {os : Array Oper} {o : Oper} {a : Act} {fr : Fr} {b : Bool} (ha : Agrees n a fr) (hw : wantF os o.guard fr = some b) : Region.wanted o (yielded os a.tmps) = b := by
  unfold wantF at hw
  unfold Region.wanted
  split at hw
  · rename_i hg; rw [hg]; simpa using hw
  · rename_i j want hg
    rw [hg]
    dsimp only
    split at hw <;> try simp at hw
    rename_i o' ho
    split at hw <;> try simp at hw
    rename_i d hd
    split at hw <;> try simp at hw
    · rename_i b' hl
      rw [← hw]
      simp [yielded, ho, hd, ha.2.2 d _ hl]
    · rename_i vs hl
      subst hw
      simp [yielded, ho, hd, ha.2.2 d _ hl]

def putF (dst : Option Nat) (v : Value) (fr : Fr) : Fr := match dst with | some d => (d, v) :: fr | none => fr
def dstOk (n : Nat) (dst : Option Nat) : Bool := match dst with | some d => Nat.blt d n | none => true
theorem Agrees.putF {n a fr dst} (ha : Agrees n a fr) (hd : dstOk n dst = true) (v : Value) : Agrees n (a.put dst v) (putF dst v fr) := by
  cases dst with
  | none => exact ha
  | some d => exact ha.put (by simpa [dstOk, Nat.blt_eq] using hd) v

theorem X.opSkip {q : Bool} {os : Array Oper} {o : Oper} {rest : List Oper} (hw : wantF os o.guard fr = some false) (hd : dstOk n o.dst = true)
    (k : X P E n post dec (.ops q os rest :: ks) (SX.putF o.dst undef fr) h) : X P E n post dec (.ops q os (o :: rest) :: ks) fr h := by
  intro a d h0d ha
  cases q with
  | false =>
    show wpList P os (kQ P post ks) (o :: rest) a _
    unfold wpList
    rw [if_neg (by rw [wantF_eq ha hw]; simp)]
    exact k _ d h0d (ha.putF hd undef)
  | true =>
    show wpQuiet P os _ _ (o :: rest) a
    unfold wpQuiet
    rw [if_neg (by rw [wantF_eq ha hw]; simp)]
    exact k _ d h0d (ha.putF hd undef)
/-- An operation yields this value, and the world stays. -/
def ValOp (P : Program) (E : Env) (n : Nat) (fr : Fr) (h : Heap) (o : Oper) (v : Value) : Prop :=
  ∀ a d, Agrees n a fr → (execOp a.eval o).run P (E.w h d) = .ok (.value v) (E.w h d)
theorem X.val {q : Bool} {os : Array Oper} {o : Oper} {rest : List Oper} {v : Value} (hw : wantF os o.guard fr = some true) (hd : dstOk n o.dst = true)
    (hv : ValOp P E n fr h o v) (k : X P E n post dec (.ops q os rest :: ks) (SX.putF o.dst v fr) h) : X P E n post dec (.ops q os (o :: rest) :: ks) fr h := by
  intro a d h0d ha
  cases q with
  | false =>
    show wpList P os (kQ P post ks) (o :: rest) a _
    unfold wpList
    rw [if_pos (wantF_eq ha hw)]
    refine .inl ?_
    unfold Oper.wp
    rw [hv a d ha]
    exact k _ d h0d (ha.putF hd v)
  | true =>
    show wpQuiet P os _ _ (o :: rest) a
    unfold wpQuiet
    rw [if_pos (wantF_eq ha hw)]
    refine ⟨v, ?_, k _ d h0d (ha.putF hd v)⟩
    rintro w ⟨d', hd', rfl⟩
    unfold Oper.quietAt
    rw [show ({ E.w h d with drawn := d' } : World) = E.w h d' from rfl, hv a d' ha]
    exact ⟨rfl, rfl⟩
/-- An operation that yields a value, leaving the heap as it is; or a new heap. -/
theorem X.opVal {os : Array Oper} {o : Oper} {rest : List Oper} (hw : wantF os o.guard fr = some true) (hd : dstOk n o.dst = true)
    (hr : ∀ a d, E.d0 ≤ d → Agrees n a fr → ∃ v h' d', E.d0 ≤ d' ∧ (execOp a.eval o).run P (E.w h d) = .ok (.value v) (E.w h' d') ∧ X P E n post dec (.ops false os rest :: ks) (SX.putF o.dst v fr) h') :
    X P E n post dec (.ops false os (o :: rest) :: ks) fr h := by
  intro a d h0d ha
  show wpList P os (kQ P post ks) (o :: rest) a _
  unfold wpList
  rw [if_pos (wantF_eq ha hw)]
  obtain ⟨v, h', d', h0', hr, k⟩ := hr a d h0d ha
  refine .inl ?_
  unfold Oper.wp
  rw [hr]
  exact k _ d' h0' (ha.putF hd v)
theorem X.opSkipNext {os : Array Oper} {o : Oper} {rest : List Oper} (hw : wantF os o.guard fr = some true) (hd : dstOk n o.dst = true)
    (hr : ∀ a d, E.d0 ≤ d → Agrees n a fr → ∃ h' d', E.d0 ≤ d' ∧ (execOp a.eval o).run P (E.w h d) = .ok .skip (E.w h' d') ∧ X P E n post dec (.ops false os rest :: ks) (SX.putF o.dst undef fr) h') :
    X P E n post dec (.ops false os (o :: rest) :: ks) fr h := by
  intro a d h0d ha
  show wpList P os (kQ P post ks) (o :: rest) a _
  unfold wpList
  rw [if_pos (wantF_eq ha hw)]
  obtain ⟨h', d', h0', hr, k⟩ := hr a d h0d ha
  refine .inl ?_
  unfold Oper.wp
  rw [hr]
  exact k _ d' h0' (ha.putF hd undef)
theorem X.opEnter {os : Array Oper} {o : Oper} {rest : List Oper} {f : FuncId} {args : Array Value} (hw : wantF os o.guard fr = some true) (hd : dstOk n o.dst = true)
    (hr : ∀ a d, Agrees n a fr → (execOp a.eval o).run P (E.w h d) = .ok (.enter f args) (E.w h d))
    (hc : Ct P E f args h fun v h' => X P E n post dec (.ops false os rest :: ks) (SX.putF o.dst v fr) h') :
    X P E n post dec (.ops false os (o :: rest) :: ks) fr h := by
  intro a d h0d ha
  show wpList P os (kQ P post ks) (o :: rest) a _
  unfold wpList
  rw [if_pos (wantF_eq ha hw)]
  refine .inl ?_
  unfold Oper.wp
  rw [hr a d ha, Oper.upon_enter]
  intro cs
  obtain ⟨e, w', fr', ⟨v, h', d', h0', he, hw', hX⟩, rest'⟩ := hc d h0d cs
  subst he; subst hw'
  exact ⟨_, _, fr', hX _ d' h0' (ha.putF hd v), rest'⟩
theorem X.qEnter {os : Array Oper} {o : Oper} {rest : List Oper} {f : FuncId} {args : Array Value} {v : Value} (hw : wantF os o.guard fr = some true) (hd : dstOk n o.dst = true)
    (hr : ∀ a d, Agrees n a fr → (execOp a.eval o).run P (E.w h d) = .ok (.enter f args) (E.w h d))
    (hc : ∀ m, Ct P { E with d0 := m } f args h fun v' h' => v' = v ∧ h' = h) (k : X P E n post dec (.ops true os rest :: ks) (SX.putF o.dst v fr) h) :
    X P E n post dec (.ops true os (o :: rest) :: ks) fr h := by
  intro a d h0d ha
  show wpQuiet P os _ _ (o :: rest) a
  unfold wpQuiet
  rw [if_pos (wantF_eq ha hw)]
  refine ⟨v, ?_, k _ d h0d (ha.putF hd v)⟩
  rintro w ⟨d', hd', rfl⟩
  unfold Oper.quietAt
  rw [show ({ E.w h d with drawn := d' } : World) = E.w h d' from rfl, hr a d' ha]
  refine ⟨rfl, ?_⟩
  intro cs
  obtain ⟨e, w', fr', ⟨v', h', d2, h2, he, hw', hv, hh⟩, rest'⟩ := hc d' d' (Nat.le_refl _) cs
  subst he; subst hw'; subst hv; subst hh
  exact ⟨_, _, fr', ⟨rfl, d2, Nat.le_trans hd' h2, rfl⟩, rest'⟩
theorem X.weakle {fr' : Fr} (k : X P E n post dec ks fr' h) (hle : ∀ i v, lget fr' i = some v → lget fr i = some v) : X P E n post dec ks fr h :=
  fun a d h0d ha => k a d h0d (ha.weak hle)
theorem lget_same {dj : Nat} {u : Value} (hb : lget fr dj = some u) : ∀ i v, lget ((dj, u) :: fr) i = some v → lget fr i = some v := by
  intro i v
  simp only [lget]
  cases hbi : Nat.beq i dj with
  | true => have := Nat.eq_of_beq_eq_true hbi; subst this; simp; rintro rfl; exact hb
  | false => simp
def memN (d : Nat) : List Nat → Bool
  | [] => false
  | e :: l => match Nat.beq d e with
    | true => true
    | false => memN d l
/-- the slot that the head's guard asks -/
def gslot (os : Array Oper) (g : Option (Nat × Bool)) : Option Nat :=
  match g with
  | some (j, _) => go os.toList j
  | none => none
where
  go : List Oper → Nat → Option Nat
    | [], _ => none
    | o :: _, 0 => o.dst
    | _ :: l, n + 1 => go l n
/-- The guard is not known: both ways. -/
theorem X.guard {q : Bool} {os : Array Oper} {o : Oper} {rest : List Oper} {dj : Nat} {b : Bool} (_hg : gslot os o.guard = some dj) (_hn : memN dj dec = false)
    (hb : lget fr dj = some (.bool b))
    (kt : b = true → X P E n post (dj :: dec) (.ops q os (o :: rest) :: ks) ((dj, .bool true) :: fr) h)
    (kf : b = false → X P E n post (dj :: dec) (.ops q os (o :: rest) :: ks) ((dj, .bool false) :: fr) h) : X P E n post dec (.ops q os (o :: rest) :: ks) fr h := by
  cases b with
  | true => exact X.weakle (kt rfl) (lget_same hb)
  | false => exact X.weakle (kf rfl) (lget_same hb)
theorem X.guard_p {q : Bool} {os : Array Oper} {o : Oper} {rest : List Oper} {dj : Nat} {p : Prop} [Decidable p] (hg : gslot os o.guard = some dj) (hn : memN dj dec = false)
    (hb : lget fr dj = some (.bool (decide p)))
    (kt : p → X P E n post (dj :: dec) (.ops q os (o :: rest) :: ks) ((dj, .bool true) :: fr) h)
    (kf : ¬ p → X P E n post (dj :: dec) (.ops q os (o :: rest) :: ks) ((dj, .bool false) :: fr) h) : X P E n post dec (.ops q os (o :: rest) :: ks) fr h :=
  X.guard hg hn hb (fun hb => kt (of_decide_eq_true hb)) (fun hb => kf (of_decide_eq_false hb))
theorem X.guard_t {q : Bool} {os : Array Oper} {o : Oper} {rest : List Oper} {dj : Nat} (_hg : gslot os o.guard = some dj) (_hn : memN dj dec = false)
    (_hb : lget fr dj = some (.bool true)) (kt : X P E n post (dj :: dec) (.ops q os (o :: rest) :: ks) fr h) : X P E n post dec (.ops q os (o :: rest) :: ks) fr h := kt
theorem X.guard_f {q : Bool} {os : Array Oper} {o : Oper} {rest : List Oper} {dj : Nat} (_hg : gslot os o.guard = some dj) (_hn : memN dj dec = false)
    (_hb : lget fr dj = some (.bool false)) (kt : X P E n post (dj :: dec) (.ops q os (o :: rest) :: ks) fr h) : X P E n post dec (.ops q os (o :: rest) :: ks) fr h := kt
theorem X.guard_pt {q : Bool} {os : Array Oper} {o : Oper} {rest : List Oper} {dj : Nat} {p : Prop} [Decidable p] (hg : gslot os o.guard = some dj) (hn : memN dj dec = false)
    (hb : lget fr dj = some (.bool (decide p))) (hp : p) (kt : X P E n post (dj :: dec) (.ops q os (o :: rest) :: ks) ((dj, .bool true) :: fr) h) : X P E n post dec (.ops q os (o :: rest) :: ks) fr h :=
  X.guard_p hg hn hb (fun _ => kt) (fun h => absurd hp h)
theorem X.guard_pf {q : Bool} {os : Array Oper} {o : Oper} {rest : List Oper} {dj : Nat} {p : Prop} [Decidable p] (hg : gslot os o.guard = some dj) (hn : memN dj dec = false)
    (hb : lget fr dj = some (.bool (decide p))) (hp : ¬ p) (kf : X P E n post (dj :: dec) (.ops q os (o :: rest) :: ks) ((dj, .bool false) :: fr) h) : X P E n post dec (.ops q os (o :: rest) :: ks) fr h :=
  X.guard_p hg hn hb (fun h => absurd h hp) (fun _ => kf)
theorem X.cond_pt {c : Operand} {x y : Code} {p : Prop} [Decidable p] (hc : evalO fr c = some (.bool (decide p))) (hp : p) (kt : X P E n post dec (.code x :: ks) fr h) : X P E n post dec (.code (.cond c x y) :: ks) fr h :=
  X.cond_p hc (fun _ => kt) (fun h => absurd hp h)
theorem X.cond_pf {c : Operand} {x y : Code} {p : Prop} [Decidable p] (hc : evalO fr c = some (.bool (decide p))) (hp : ¬ p) (kf : X P E n post dec (.code y :: ks) fr h) : X P E n post dec (.code (.cond c x y) :: ks) fr h :=
  X.cond_p hc (fun h => absurd h hp) (fun _ => kf)
theorem X.forget {dec' : List Nat} (k : X P E n post dec' ks fr h) : X P E n post dec ks fr h := k
end
end Go.SX
