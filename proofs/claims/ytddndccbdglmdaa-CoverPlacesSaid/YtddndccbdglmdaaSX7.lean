/- A part of the proofs of this seat's statements: lemmas and contracts, each with its own premises. -/
import Derived.Test.YtddndccbdglmdaaSX6
namespace Go.SX
/-- A slice of the call's own that starts at its block's head (or is nil): n elements, their cells xs; R: its block, if any. -/
inductive Row (e : TypeId) (size : Nat) : Value → Nat → List Value → List (Nat × Obj) → Prop
  | nil : Row e size (.slice none 0 0) 0 [] []
  | one (b cap : Nat) (cur : Array Value) (n : Nat) (xs : List Value) : n ≤ cap → cap ≤ maxLen → cur.size = cap * size → cur.toList.take (n * size) = xs →
      Row e size (.slice (some ⟨b, 0, none⟩) n cap) n xs [(b, .cells cur e (0, 0))]
theorem Row.len {e size v n xs R} (hR : Row e size v n xs R) : xs.length = n * size := by
  cases hR with
  | nil => simp
  | one b cap cur n xs h1 h2 h3 h4 =>
    rw [← h4]
    simp
    rw [h3]
    exact Nat.min_eq_left (Nat.mul_le_mul_right _ h1)

section
variable {P : Program} {E : Env} {n : Nat} {post : Exit → Act → World → Prop} {dec : List Nat} {ks : List K} {fr : Fr} {h : Heap}
variable {q : Bool} {os : Array Oper} {rest : List Oper} {h0 : Heap} {M : Nat → Prop} {L R : List (Nat × Obj)}
variable {ty : TypeId} {pos : String} {af : Array Edge} {g : Option (Nat × Bool)} {dst : Option Nat}

theorem GoodH.perm {L L' : List (Nat × Obj)} (gd : GoodH h0 M L h) (hp : L.Perm L') : GoodH h0 M L' h :=
  ⟨gd.size, gd.old, (hp.map _).nodup_iff.1 gd.nd, fun p hm => gd.own p (hp.mem_iff.2 hm), fun p hm => gd.new p (hp.mem_iff.2 hm)⟩
theorem GoodH.drop1 {p : Nat × Obj} (gd : GoodH h0 M (p :: L) h) : GoodH h0 M L h :=
  ⟨gd.size, gd.old, (List.nodup_cons.1 gd.nd).2, fun q hm => gd.own q (List.mem_cons_of_mem _ hm), fun q hm => gd.new q (List.mem_cons_of_mem _ hm)⟩
theorem GoodH.sub {L' : List (Nat × Obj)} (gd : GoodH h0 M L h) (hs : L'.Sublist L) : GoodH h0 M L' h :=
  ⟨gd.size, gd.old, gd.nd.sublist (hs.map _), fun q hm => gd.own q (hs.subset hm), fun q hm => gd.new q (hs.subset hm)⟩
theorem GoodH.skip1 {p : Nat × Obj} {R : List (Nat × Obj)} (gd : GoodH h0 M (R ++ p :: L) h) : GoodH h0 M (R ++ L) h := gd.sub (List.Sublist.append_left (List.sublist_cons_self _ _) R)
theorem GoodH.swap {p q : Nat × Obj} (gd : GoodH h0 M (p :: q :: L) h) : GoodH h0 M (q :: p :: L) h := gd.perm (List.Perm.swap _ _ _)
theorem GoodH.dropL {L' : List (Nat × Obj)} (gd : GoodH h0 M (L' ++ L) h) : GoodH h0 M L h := by
  induction L' with
  | nil => exact gd
  | cons p L' ih => exact ih gd.drop1

theorem run_append_row (T : Tbl P) {t e : TypeId} {s1 s2 : Nat} {z : Value} {te : TI} (hT : T.T t = some ⟨.slice e, s1, s2, z⟩) (hTe : T.T e = some te) (hz : te.zero.cells.size = te.size)
    {v : Value} {m k : Nat} {xs news : List Value} (gd : GoodH h0 M (R ++ L) h) (hR : Row e te.size v m xs R) {a : Addr} {c : Nat}
    (hl : news.length = k * te.size) (hnews : ∀ j u, news[j]? = some u → hcell h (a.add j) = some u) (h1 : ∀ u ∈ news, u.oneCell' = true)
    (h63 : m + k ≤ maxLen) (hby : (m + k) * te.bytes ≤ 140737488355328) (hk : 0 < k) (d : Nat) :
    ∃ v' h' d' R', d ≤ d' ∧ (Builtin.append_ #[t, t] ty #[v, .slice (some a) k c]).run P (E.w h d) = .ok v' (E.w h' d') ∧ Row e te.size v' (m + k) (xs ++ news) R' ∧ GoodH h0 M (R' ++ L) h' := by
  obtain ⟨i, hi, hiz, his, hib⟩ := (T.ok _ _ hTe).info
  have hu := und_slice (T.ok _ _ hT) rfl
  have hsmall : m + k ≤ 9223372036854775807 := by simp only [maxLen] at h63; omega
  have hxl := hR.len
  have grown : ∀ (old : Nat) (d : Nat) (xs : List Value), old < m + k → xs.length = m * te.size →
      Row e te.size (.slice (some ⟨h.size, 0, none⟩) (m + k) (grownCap (E.w h d) (m + k) old e)) (m + k) (xs ++ news)
        [(h.size, .cells (xs.toArray ++ news.toArray ++ Builtin.zeroCells te.zero.cells (grownCap (E.w h d) (m + k) old e - (m + k))) e (0, 0))] := by
    intro old d xs ho hxs
    have hge := grownCap_ge (E.w h d) (m + k) old e
    have hcm : grownCap (E.w h d) (m + k) old e ≤ maxLen := grownCap_le_maxLen _ _ _ _ h63
    have hlen : (xs ++ news).length = (m + k) * te.size := by rw [List.length_append, hxs, hl, Nat.add_mul]
    refine .one _ _ _ _ _ hge hcm ?_ ?_
    · simp only [Array.size_append, List.size_toArray, size_zeroCells, hz, hxs, hl, ← Nat.add_mul]
      congr 1
      omega
    · simp only [Array.toList_append, List.append_assoc]
      rw [← List.append_assoc, ← hlen]
      exact List.take_left
  cases hR with
  | nil =>
    simp only [List.nil_append, Nat.zero_add] at *
    have hr := run_append_nil (P := P) (E.w h d) t ty e i te.zero hu hi hiz a k c news (by rw [his]; exact hl) hnews hk (by omega) (by rw [hib]; omega)
    have hg := grown 0 d [] hk (by simp)
    refine ⟨_, _, d + 1, _, Nat.le_succ d, hr, hg, ?_⟩
    have hp := gd.push (.cells (news.toArray ++ Builtin.zeroCells te.zero.cells (grownCap (E.w h d) k 0 e - k)) e (0, 0))
    rw [show ([] : List Value).toArray ++ news.toArray = news.toArray from by simp]
    exact hp
  | one b cap cur m' xs h2 h3 h4 h5 =>
    have hb : h[b]? = some (.cells cur e (0, 0)) := gd.own (b, .cells cur e (0, 0)) (by simp)
    by_cases hroom : m + k ≤ cap
    · have hfit : m * te.size + news.length ≤ cur.size := by rw [hl, h4, ← Nat.add_mul]; exact Nat.mul_le_mul_right _ hroom
      have hr := run_append_room (P := P) (E.w h d) t ty e i hu hi b m cap cur hb a k c news (by rw [his]; exact hl) hnews h1 hroom (by rw [his]; exact hfit)
      refine ⟨_, _, d, _, Nat.le_refl d, hr, .one b cap _ _ _ hroom h3 ?_ ?_, gd.row (i := 0) rfl _⟩
      · rw [his]
        simp only [List.size_toArray, List.length_append, List.length_take, List.length_drop, Array.length_toList]
        omega
      · rw [his, h5]
        have hlen : (xs ++ news).length = (m + k) * te.size := by rw [List.length_append, hxl, hl, Nat.add_mul]
        rw [← hlen]
        exact List.take_left
    · have holds : ∀ j u, xs[j]? = some u → hcell h ((⟨b, 0, none⟩ : Addr).add j) = some u := by
        intro j u hu
        rw [add_plain, hcell_of hb, Nat.zero_add]
        rw [← h5, List.getElem?_take] at hu
        split at hu
        · simpa using hu
        · simp at hu
      have hr := run_append_grow (P := P) (E.w h d) t ty e i te.zero hu hi hiz ⟨b, 0, none⟩ m cap xs (by rw [his]; exact hxl) holds a k c news (by rw [his]; exact hl) hnews (by omega) (by omega) (growslice_fits (by omega) (by rw [hib]; exact hby))
      have hg := grown cap d xs (by omega) hxl
      refine ⟨_, _, d + 1, _, Nat.le_succ d, hr, hg, ?_⟩
      have := (gd.dropL).push (.cells (xs.toArray ++ news.toArray ++ Builtin.zeroCells te.zero.cells (grownCap (E.w h d) (m + k) cap e - (m + k))) e (0, 0))
      exact this

/-- append(s, x..), the new elements' cells standing in h. -/
theorem X.append (T : Tbl P) {t e : TypeId} {s1 s2 : Nat} {z : Value} {te : TI} {x y : Operand} {v : Value} {m k c : Nat} {xs news : List Value} {a : Addr} (gd : GoodH h0 M (R ++ L) h) (hR : Row e te.size v m xs R)
    (hw : wantF os g fr = some true) (hd : dstOk n dst = true) (hT : T.T t = some ⟨.slice e, s1, s2, z⟩) (hTe : T.T e = some te) (hz : te.zero.cells.size = te.size)
    (hx : evalO fr x = some v) (hy : evalO fr y = some (.slice (some a) k c))
    (hl : news.length = k * te.size) (hnews : ∀ j u, news[j]? = some u → hcell h (a.add j) = some u) (h1 : ∀ u ∈ news, u.oneCell' = true)
    (h63 : m + k ≤ maxLen) (hby : (m + k) * te.bytes ≤ 140737488355328) (hk : 0 < k)
    (K : ∀ v' R' h', Row e te.size v' (m + k) (xs ++ news) R' → GoodH h0 M (R' ++ L) h' → X P E n post dec (.ops false os rest :: ks) (putF dst v' fr) h') :
    X P E n post dec (.ops false os (⟨dst, .call ⟨.builtin .append, #[x, y], #[t, t]⟩, ty, pos, af, g⟩ :: rest) :: ks) fr h := by
  refine X.opVal hw hd fun ac d h0d ha => ?_
  obtain ⟨v', h', d', R', hdd, hr, hR', gd'⟩ := run_append_row (E := E) (ty := ty) (c := c) T hT hTe hz gd hR hl hnews h1 h63 hby hk d
  refine ⟨v', h', d', Nat.le_trans h0d hdd, ?_, K v' R' h' hR' gd'⟩
  simp only [execOp, resolve, invoke, builtin, run_bind', run_pure', List.map_toArray, List.map_cons, List.map_nil, ha.eval hx, ha.eval hy, hr]
/-- append(s, x): the literal stands at the head of the call's own. -/
theorem X.append1 (T : Tbl P) {t e : TypeId} {s1 s2 : Nat} {z : Value} {te : TI} {x y : Operand} {v : Value} {m k c bx : Nat} {xs news : List Value} {e' : TypeId} {fz : Nat × Nat}
    (gd : GoodH h0 M ((bx, .cells news.toArray e' fz) :: (R ++ L)) h) (hR : Row e te.size v m xs R)
    (hw : wantF os g fr = some true) (hd : dstOk n dst = true) (hT : T.T t = some ⟨.slice e, s1, s2, z⟩) (hTe : T.T e = some te) (hz : te.zero.cells.size = te.size)
    (hx : evalO fr x = some v) (hy : evalO fr y = some (.slice (some ⟨bx, 0, none⟩) k c))
    (hl : news.length = k * te.size) (h1 : allOne news = true)
    (h63 : m + k ≤ maxLen) (hby : (m + k) * te.bytes ≤ 140737488355328) (hk : 0 < k)
    (K : ∀ v' R' h', Row e te.size v' (m + k) (xs ++ news) R' → GoodH h0 M (R' ++ L) h' → X P E n post dec (.ops false os rest :: ks) (putF dst v' fr) h') :
    X P E n post dec (.ops false os (⟨dst, .call ⟨.builtin .append, #[x, y], #[t, t]⟩, ty, pos, af, g⟩ :: rest) :: ks) fr h :=
  X.append T gd.drop1 hR hw hd hT hTe hz hx hy hl (fun j u hu => by
    rw [add_plain, hcell_of (gd.own (bx, .cells news.toArray e' fz) (by simp))]
    simpa using hu) (allOne_eq h1) h63 hby hk K

/-! calls -/
structure Callable (P : Program) (f : FuncId) : Prop where
  out : ∀ args w, (callFunc f args).run P w = .ok (.enter f args) w
theorem Callable.mk' {f : FuncId} {fn : Func} (hf : P.funcs[f]? = some fn) (hn : (fn.name == "runtime.NumGoroutine") = false) (hb : fn.body.isNone = false) : Callable P f :=
  ⟨fun args w => by simp only [callFunc, run_bind', run_program, hf, hn, hb, Bool.false_eq_true, if_false, run_pure']⟩
def catF {β : Type} : List Value → List Value → (List Value → β) → β
  | [], l, k => force l k
  | a :: l, l', k => catF l l' fun r => k (a :: r)
theorem catF_eq {β : Type} (l l' : List Value) (k : List Value → β) : catF l l' k = k (l ++ l') := by
  induction l generalizing k with
  | nil => simp [catF, force_eq]
  | cons a l ih => simp [catF, ih]
theorem X.call {f : FuncId} {args : Array Operand} {ats : Array TypeId} {vs : List Value} (hc : Callable P f) (hw : wantF os g fr = some true) (hd : dstOk n dst = true) (hargs : evalL fr args.toList some = some vs)
    (hct : Ct P E f vs.toArray h fun v h' => X P E n post dec (.ops false os rest :: ks) (putF dst v fr) h') :
    X P E n post dec (.ops false os (⟨dst, .call ⟨.value (.func f), args, ats⟩, ty, pos, af, g⟩ :: rest) :: ks) fr h := by
  refine X.opEnter hw hd (fun ac d ha => ?_) hct
  have h1 := evalL_arr ha args some vs hargs
  simp only [Option.some.injEq] at h1
  have h2 : args.map ac.eval = vs.toArray := by apply Array.ext'; simpa using h1
  simp only [execOp, resolve, run_bind', Deferred.ofValue, Act.eval, run_pure', invoke, hc.out]
  rw [← h2]
  simp
/-- A call that only reads, in a region of whatever order. -/
theorem X.callQ {f : FuncId} {args : Array Operand} {ats : Array TypeId} {vs : List Value} {v : Value} (hc : Callable P f) (hw : wantF os g fr = some true) (hd : dstOk n dst = true) (hargs : evalL fr args.toList some = some vs)
    (hct : ∀ m, Ct P { E with d0 := m } f vs.toArray h fun v' h' => v' = v ∧ h' = h) (k : X P E n post dec (.ops true os rest :: ks) (putF dst v fr) h) :
    X P E n post dec (.ops true os (⟨dst, .call ⟨.value (.func f), args, ats⟩, ty, pos, af, g⟩ :: rest) :: ks) fr h := by
  refine X.qEnter hw hd (fun ac d ha => ?_) hct k
  have h1 := evalL_arr ha args some vs hargs
  simp only [Option.some.injEq] at h1
  have h2 : args.map ac.eval = vs.toArray := by apply Array.ext'; simpa using h1
  simp only [execOp, resolve, run_bind', Deferred.ofValue, Act.eval, run_pure', invoke, hc.out]
  rw [← h2]
  simp
/-- A call of a function value. -/
theorem X.callV {f : FuncId} {x : Operand} {args : Array Operand} {ats : Array TypeId} {vs l : List Value} {p q : Array Value} (hc : Callable P f) (hw : wantF os g fr = some true) (hd : dstOk n dst = true)
    (hx : evalO fr x = some (.func (.func f) p q)) (hargs : evalL fr args.toList some = some vs) (hl : (catF p.toList vs fun r => catF r q.toList id) = l)
    (hct : Ct P E f l.toArray h fun v h' => X P E n post dec (.ops false os rest :: ks) (putF dst v fr) h') :
    X P E n post dec (.ops false os (⟨dst, .call ⟨.value x, args, ats⟩, ty, pos, af, g⟩ :: rest) :: ks) fr h := by
  subst hl
  refine X.opEnter hw hd (fun ac d ha => ?_) hct
  have h1 := evalL_arr ha args some vs hargs
  simp only [Option.some.injEq] at h1
  have h2 : args.map ac.eval = vs.toArray := by apply Array.ext'; simpa using h1
  simp only [execOp, resolve, run_bind', Deferred.ofValue, ha.eval hx, run_pure', invoke, hc.out, h2]
  congr 2
  apply Array.ext'
  simp [catF_eq]

/-! min, max -/
theorem X.min {args : Array Operand} {ats : Array TypeId} {k k' : IntKind} {x y : Int} (hw : wantF os g fr = some true) (hd : dstOk n dst = true) (hargs : evalL fr args.toList some = some [.int k x, .int k' y])
    (K : X P E n post dec (.ops q os rest :: ks) (putF dst (.int k (if y < x then y else x)) fr) h) :
    X P E n post dec (.ops q os (⟨dst, .call ⟨.builtin .min, args, ats⟩, ty, pos, af, g⟩ :: rest) :: ks) fr h := by
  refine X.val hw hd (fun ac d ha => ?_) K
  have h1 := evalL_arr ha args some _ hargs
  simp only [Option.some.injEq] at h1
  have h2 : args.map ac.eval = #[.int k x, .int k' y] := Array.ext' h1
  simp [execOp, resolve, invoke, builtin, h2, Builtin.min_, Builtin.min2]
theorem X.max {args : Array Operand} {ats : Array TypeId} {k k' : IntKind} {x y : Int} (hw : wantF os g fr = some true) (hd : dstOk n dst = true) (hargs : evalL fr args.toList some = some [.int k x, .int k' y])
    (K : X P E n post dec (.ops q os rest :: ks) (putF dst (.int k (if x < y then y else x)) fr) h) :
    X P E n post dec (.ops q os (⟨dst, .call ⟨.builtin .max, args, ats⟩, ty, pos, af, g⟩ :: rest) :: ks) fr h := by
  refine X.val hw hd (fun ac d ha => ?_) K
  have h1 := evalL_arr ha args some _ hargs
  simp only [Option.some.injEq] at h1
  have h2 : args.map ac.eval = #[.int k x, .int k' y] := Array.ext' h1
  simp [execOp, resolve, invoke, builtin, h2, Builtin.max_, Builtin.max2]

/-! a cut: what stands behind two ways is run once -/
theorem X.cut {c : Code} (S : Type) (frS : S → Fr) (I : S → Heap → Prop)
    (k1 : X P E n post dec (.code c :: .fin (fun a w => ∃ s h' d, E.d0 ≤ d ∧ w = E.w h' d ∧ Agrees n a (frS s) ∧ I s h') :: ks) fr h)
    (k2 : ∀ s h', I s h' → X P E n post [] ks (frS s) h') : X P E n post dec (.code c :: ks) fr h := by
  intro a d h0d ha
  have := k1 a d h0d ha
  simp only [kQ] at this ⊢
  refine Code.wp_mono ?_ this
  intro e a' w' hq
  cases e with
  | normal =>
    obtain ⟨s, h', d', h0', rfl, hag, hi⟩ := hq
    exact k2 s h' hi a' d' h0' hag
  | _ => exact hq
theorem X.fin {S : Type} {frS : S → Fr} {I : S → Heap → Prop} (s : S) (hfr : frIn fr (frS s)) (hi : I s h) :
    X P E n post dec (.fin (fun a w => ∃ s h' d, E.d0 ≤ d ∧ w = E.w h' d ∧ Agrees n a (frS s) ∧ I s h') :: ks) fr h :=
  fun _ d h0d ha => ⟨s, h, d, h0d, rfl, ha.weak hfr.le, hi⟩
/-! a loop -/
def roundJ (E : Env) (n : Nat) {S : Type} (frS : S → Fr) (I : S → Heap → Prop) (μ : S → Nat) (s : S) : Act → World → Prop :=
  fun a w => ∃ s' h' d, E.d0 ≤ d ∧ w = E.w h' d ∧ Agrees n a (frS s') ∧ I s' h' ∧ μ s' < μ s
theorem X.loop {c : Code} {S : Type} (frS : S → Fr) (I : S → Heap → Prop) (μ : S → Nat) (s0 : S) (hfr : frIn fr (frS s0)) (hi : I s0 h)
    (body : ∀ s h', I s h' → X P E n post [] (.code c :: .fin (roundJ E n frS I μ s) :: ks) (frS s) h') : X P E n post dec (.code (.loop c) :: ks) fr h := by
  intro a d h0d ha
  show (Code.loop c).wp P (kQ P post ks) a (E.w h d)
  have key : ∀ (m : Nat) (s : S) (a : Act) (h' : Heap) (d : Nat), μ s = m → E.d0 ≤ d → Agrees n a (frS s) → I s h' →
      ∀ (b : Frame) (kk : List Item) (cs : List Frame), ∃ e a' w', kQ P post ks e a' w' ∧ Arrives P (lone (b.at a (.code c :: .inLoop c :: kk)) cs (E.w h' d)) b kk cs e a' w' := by
    intro m
    induction m using Nat.strongRecOn with
    | _ m ih =>
      intro s a h' d hm h0d hag hI b kk cs
      obtain ⟨e, a₁, w₁, hq, harr⟩ := body s h' hI a d h0d hag b (.inLoop c :: kk) cs
      cases e with
      | normal =>
        obtain ⟨s', h2, d2, h0', rfl, hag', hI', hlt⟩ := hq
        obtain ⟨e₂, a₂, w₂, hq₂, harr₂⟩ := ih (μ s') (hm ▸ hlt) s' a₁ h2 d2 rfl h0' hag' hI' b kk cs
        exact ⟨e₂, a₂, w₂, hq₂, .of_steps (Steps.trans harr (.one step_inLoop)) harr₂⟩
      | exit id => exact ⟨_, a₁, w₁, hq, .pass (x := .inLoop c) rfl (fun _ _ => .inl (by simp)) harr⟩
      | goto l => exact ⟨_, a₁, w₁, hq, .pass (x := .inLoop c) rfl (fun _ _ => .inl (by simp)) harr⟩
      | ret => exact ⟨_, a₁, w₁, hq, .pass (x := .inLoop c) rfl (fun _ _ => .inl (by simp)) harr⟩
      | panic ch => exact ⟨_, a₁, w₁, hq, .pass (x := .inLoop c) rfl (fun _ _ => .inl (by simp)) harr⟩
      | outgrown => exact ⟨_, a₁, w₁, hq, .pass (x := .inLoop c) rfl (fun _ _ => .inl (by simp)) harr⟩
  intro b kk cs
  obtain ⟨e, a', w', hq, harr⟩ := key _ s0 a h d rfl h0d (ha.weak hfr.le) hi b kk cs
  exact ⟨e, a', w', hq, .of_steps (.one step_loop) harr⟩
theorem X.round {S : Type} {frS : S → Fr} {I : S → Heap → Prop} {μ : S → Nat} {s : S} (s' : S) (hfr : frIn fr (frS s')) (hi : I s' h) (hμ : μ s' < μ s) :
    X P E n post dec (.fin (roundJ E n frS I μ s) :: ks) fr h :=
  fun _ d h0d ha => ⟨s', h, d, h0d, rfl, ha.weak hfr.le, hi, hμ⟩
end
end Go.SX
