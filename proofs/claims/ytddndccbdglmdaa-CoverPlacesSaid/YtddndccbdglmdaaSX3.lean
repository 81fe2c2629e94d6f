/- A part of the proofs of this seat's statements: lemmas and contracts, each with its own premises. -/
import Derived.Test.YtddndccbdglmdaaSX2
namespace Go.SX
section
variable {P : Program} {n : Nat} {fr : Fr} {a : Act} {w : World}

theorem und_slice {t e i} (h : TOk P t i) (hd : i.d = .slice e) : P.underlying t = some (.slice e) := by
  obtain ⟨u, hu, hd'⟩ := h.desc
  rw [hd] at hd'
  cases u <;> simp [D.of] at hd'
  subst hd'; exact hu
theorem und_arr {t m e i} (h : TOk P t i) (hd : i.d = .arr m e) : P.underlying t = some (.array m e) := by
  obtain ⟨u, hu, hd'⟩ := h.desc
  rw [hd] at hd'
  cases u <;> simp [D.of] at hd'
  obtain ⟨rfl, rfl⟩ := hd'; exact hu
theorem und_int {t k i} (h : TOk P t i) (hd : i.d = .int k) : P.underlying t = some (.int k) := by
  obtain ⟨u, hu, hd'⟩ := h.desc
  rw [hd] at hd'
  cases u <;> simp [D.of] at hd'
  subst hd'; exact hu
theorem und_bool {t i} (h : TOk P t i) (hd : i.d = .bool) : P.underlying t = some .bool := by
  obtain ⟨u, hu, hd'⟩ := h.desc
  rw [hd] at hd'
  cases u <;> simp [D.of] at hd'
  exact hu
theorem und_ptr {t e i} (h : TOk P t i) (hd : i.d = .ptr e) : P.underlying t = some (.pointer e) := by
  obtain ⟨u, hu, hd'⟩ := h.desc
  rw [hd] at hd'
  cases u <;> simp [D.of] at hd'
  subst hd'; exact hu
theorem und_map {t k e i} (h : TOk P t i) (hd : i.d = .map k e) : P.underlying t = some (.map k e) := by
  obtain ⟨u, hu, hd'⟩ := h.desc
  rw [hd] at hd'
  cases u <;> simp [D.of] at hd'
  obtain ⟨rfl, rfl⟩ := hd'; exact hu
theorem und_struct {t fs i} (h : TOk P t i) (hd : i.d = .struct fs) : ∃ gs, P.underlying t = some (.struct gs) ∧ gs.toList.map (fun f => (f.type, f.offset)) = fs := by
  obtain ⟨u, hu, hd'⟩ := h.desc
  rw [hd] at hd'
  cases u <;> simp [D.of] at hd'
  exact ⟨_, hu, by simpa using hd'⟩
theorem run_und {t u} (h : P.underlying t = some u) : (underlying t).run P w = .ok u w := by
  simp [underlying, h]

theorem intOp_run {op : BinOp} {k : IntKind} {x y : Int} {v : Value} (h : intOp op k x y = some v) :
    (match op with
      | .add | .sub | .mul => Op.intArith op k x y
      | .quo | .rem => Op.intDiv op k x y
      | .and | .or | .xor | .andNot => Op.intBits op k x y
      | _ => Op.intCmp op x y).run P w = .ok v w := by
  cases op <;> simp [intOp] at h <;> subst h <;> rfl

theorem eqGuard_int {op t x y k k' p q} : (eqGuard op t x y (.int k p) (.int k' q)).run P w = .ok () w := by
  unfold eqGuard; cases op <;> rfl
theorem eqGuard_bool {op t x y p q} : (eqGuard op t x y (.bool p) (.bool q)).run P w = .ok () w := by
  unfold eqGuard; cases op <;> rfl
theorem eqGuard_ptr {op t x y p q} : (eqGuard op t x y (.pointer p) (.pointer q)).run P w = .ok () w := by
  unfold eqGuard; cases op <;> rfl

theorem eqOp_run {op : BinOp} {t : TypeId} {x y : Value} {b : Bool} {v : Value} (h : eqOp op b = some v) (he : (Op.equal t x y).run P w = .ok b w)
    (hx : ∀ k m, x ≠ .int k m) (hf : ∀ k m, x ≠ .float k m) (hc : ∀ k l m, x ≠ .complex k l m) (hs : ∀ s, x ≠ .string s) :
    (binOp op t x y).run P w = .ok v w := by
  cases op <;> simp [eqOp] at h
  · subst h
    cases x <;> first | exact absurd rfl (hx _ _) | exact absurd rfl (hf _ _) | exact absurd rfl (hc _ _ _) | exact absurd rfl (hs _) | simp [binOp, he]
  · subst h
    cases x <;> first | exact absurd rfl (hx _ _) | exact absurd rfl (hf _ _) | exact absurd rfl (hc _ _ _) | exact absurd rfl (hs _) | simp [binOp, he]

theorem equalIn_bool {t p q} (d : Nat) (hu : P.underlying t = some .bool) : (Op.equalIn (d + 1) t (.bool p) (.bool q)).run P w = .ok (p == q) w := by
  simp only [Op.equalIn, run_bind', run_und hu]; rfl
theorem equalIn_ptr_nn {t e} (d : Nat) (hu : P.underlying t = some (.pointer e)) : (Op.equalIn (d + 1) t (.pointer none) (.pointer none)).run P w = .ok true w := by
  simp only [Op.equalIn, run_bind', run_und hu]; rfl
theorem equalIn_ptr_sn {t e x} (d : Nat) (hu : P.underlying t = some (.pointer e)) : (Op.equalIn (d + 1) t (.pointer (some x)) (.pointer none)).run P w = .ok false w := by
  simp only [Op.equalIn, run_bind', run_und hu]; rfl
theorem equalIn_ptr_ns {t e x} (d : Nat) (hu : P.underlying t = some (.pointer e)) : (Op.equalIn (d + 1) t (.pointer none) (.pointer (some x))).run P w = .ok false w := by
  simp only [Op.equalIn, run_bind', run_und hu]; rfl
theorem pureBin_run (T : Tbl P) {op : BinOp} {xT : TypeId} {x y : Operand} {vx vy v : Value} (hy : a.eval y = vy) (h : pureBin T.T op xT y vx vy = some v) :
    (do eqGuard op xT x y vx vy; binOp op xT vx vy : Sem Value).run P w = .ok v w := by
  rw [run_bind']
  unfold pureBin at h
  split at h
  · rename_i k p k' q
    rw [eqGuard_int]
    dsimp only
    have lit : ∀ (k2 : IntKind) (m : Nat), y = .const (.int k2 (Int.ofNat m)) → k2 = k' ∧ q = (m : Int) := by
      rintro k2 m rfl
      simp [Act.eval] at hy
      exact ⟨hy.1, by omega⟩
    split at h
    · -- shl
      split at h <;> try simp at h
      rename_i k2 m
      obtain ⟨rfl, rfl⟩ := lit _ _ rfl
      simp [intLit] at h
      subst h
      simp [binOp, Op.shift]
      intro h; omega
    · split at h <;> try simp at h
      rename_i k2 m
      obtain ⟨rfl, rfl⟩ := lit _ _ rfl
      simp [intLit] at h
      subst h
      simp [binOp, Op.shift]
      intro h; omega
    · split at h <;> try simp at h
      rename_i k2 m
      split at h <;> try simp at h
      rename_i hk
      obtain ⟨rfl, rfl⟩ := lit _ _ rfl
      have := kindEq_eq hk
      subst this
      cases m with
      | zero => simp [intLit] at h
      | succ m =>
        simp only [intLit, Option.some.injEq] at h
        subst h
        have hne : ((m + 1 : Nat) : Int) ≠ 0 := by omega
        simp [binOp, Op.intDiv]
        intro h; omega
    · split at h <;> try simp at h
      rename_i k2 m
      split at h <;> try simp at h
      rename_i hk
      obtain ⟨rfl, rfl⟩ := lit _ _ rfl
      have := kindEq_eq hk
      subst this
      cases m with
      | zero => simp [intLit] at h
      | succ m =>
        simp only [intLit, Option.some.injEq] at h
        subst h
        have hne : ((m + 1 : Nat) : Int) ≠ 0 := by omega
        simp [binOp, Op.intDiv]
        intro h; omega
    · rename_i h1 h2 h3 h4
      split at h <;> try simp at h
      rename_i hk
      have := kindEq_eq hk
      subst this
      have hr := intOp_run (P := P) (w := w) h
      cases op <;> first | exact absurd rfl h1 | exact absurd rfl h2 | (simp [binOp]; exact hr)
  · rename_i p q
    split at h <;> try simp at h
    rename_i ti hT
    rw [eqGuard_bool]
    dsimp only
    refine eqOp_run h ?_ (by simp) (by simp) (by simp) (by simp)
    exact equalIn_bool 9999 (und_bool (T.ok _ _ hT) rfl)
  · split at h <;> try simp at h
    rename_i ti hT
    rw [eqGuard_ptr]
    dsimp only
    refine eqOp_run h ?_ (by simp) (by simp) (by simp) (by simp)
    exact equalIn_ptr_nn 9999 (und_ptr (T.ok _ _ hT) rfl)
  · split at h <;> try simp at h
    rename_i ti hT
    rw [eqGuard_ptr]
    dsimp only
    refine eqOp_run h ?_ (by simp) (by simp) (by simp) (by simp)
    exact equalIn_ptr_sn 9999 (und_ptr (T.ok _ _ hT) rfl)
  · split at h <;> try simp at h
    rename_i ti hT
    rw [eqGuard_ptr]
    dsimp only
    refine eqOp_run h ?_ (by simp) (by simp) (by simp) (by simp)
    exact equalIn_ptr_ns 9999 (und_ptr (T.ok _ _ hT) rfl)
  · simp at h

theorem evalL_arr {β : Type} (ha : Agrees n a fr) (xs : Array Operand) (k : List Value → Option β) (r : β) (h : evalL fr xs.toList k = some r) : k (xs.map a.eval).toList = some r := by
  have := evalL_eq ha _ _ _ h
  simpa using this

theorem fnth_field {t : TypeId} {i : TI} {fs : List (TypeId × Nat)} {j : Nat} {ft : TypeId} {off : Nat} (h : TOk P t i) (hd : i.d = .struct fs) (hj : fnth fs j = some (ft, off)) :
    ∃ gs g, P.underlying t = some (.struct gs) ∧ gs[j]? = some g ∧ g.type = ft ∧ g.offset = off := by
  obtain ⟨gs, hu, hm⟩ := und_struct h hd
  rw [fnth_eq, ← hm] at hj
  simp at hj
  obtain ⟨g, hg, rfl, rfl⟩ := hj
  exact ⟨gs, g, hu, hg, rfl, rfl⟩

theorem run_program : (program).run P w = .ok P w := rfl
theorem run_pure' {α : Type} (x : α) : (pure x : Sem α).run P w = .ok x w := rfl

theorem pureOp_run (T : Tbl P) (ha : Agrees n a fr) {o : Oper} {v : Value} (h : pureOp T.T fr o.op = some v) : (execOp a.eval o).run P w = .ok (.value v) w := by
  unfold execOp
  generalize o.op = op at h
  unfold pureOp at h
  split at h
  · simp [ha.eval h]
  · simp [ha.eval h]
  · rename_i c x y
    split at h <;> try simp at h
    · rename_i hc
      simp [ha.eval hc, ha.eval h, asBool]
    · rename_i hc
      simp [ha.eval hc, ha.eval h, asBool]
  · rename_i op xT x y yT
    split at h <;> try simp at h
    rename_i vx hx
    split at h <;> try simp at h
    rename_i vy hy
    dsimp only
    rw [run_bind', ha.eval hx, ha.eval hy]
    rw [pureBin_run T (ha.eval hy) h]
    rfl
  · rename_i op t x
    split at h <;> try simp at h
    · rename_i b hx
      subst h
      simp [ha.eval hx, Op.unary]
    · rename_i k m hx
      subst h
      simp [ha.eval hx, Op.unary, Op.intArith]
  · rename_i x
    split at h <;> try simp at h
    · rename_i ad hx
      subst h
      simp [ha.eval hx]
    · rename_i f p q hx
      subst h
      simp [ha.eval hx]
  · rename_i x j
    split at h <;> try simp at h
    rename_i vs hx
    rw [lnth_eq] at h
    simp at h
    simp [ha.eval hx, Instr.extract, h]
  · rename_i xT x j
    split at h <;> try simp at h
    rename_i fs s1 s2 s3 hT
    split at h <;> try simp at h
    rename_i ft off hj
    split at h <;> try simp at h
    rename_i ti hft
    split at h <;> try simp at h
    rename_i cs hx
    obtain ⟨gs, g, hu, hg, rfl, rfl⟩ := fnth_field (T.ok _ _ hT) rfl hj
    have hag := (T.ok _ _ hft).run_agg (w := w)
    have hsz := (T.ok _ _ hft).run_sizeOf (w := w)
    split at h
    · rename_i hagg
      rw [force_eq, ltake_eq, ldrop_eq] at h
      simp at h
      subst h
      rw [hagg] at hag
      simp only [Instr.field, run_bind', run_und hu, hg, ha.eval hx, asAgg, run_pure', part, hag, hsz, if_true]
      congr 3
      apply Array.ext'
      simp
    · rename_i hagg
      rw [lnth_eq] at h
      simp at h
      rw [hagg] at hag
      simp [Instr.field, run_und hu, hg, ha.eval hx, asAgg, part, hag, h]
  · rename_i s x j
    split at h <;> try simp at h
    rename_i fs s1 s2 s3 hT
    split at h <;> try simp at h
    rename_i ft off hj
    split at h <;> try simp at h
    rename_i ti hft
    split at h <;> try simp at h
    rename_i hsz0
    split at h <;> try simp at h
    rename_i b of hx
    obtain ⟨gs, g, hu, hg, rfl, hoff⟩ := fnth_field (T.ok _ _ hT) rfl hj
    have hsz := (T.ok _ _ hft).run_sizeOf (w := w)
    have hne : ti.size ≠ 0 := by rw [Nat.blt_eq] at hsz0; omega
    simp only [Instr.fieldAt, run_bind', run_und hu, hg, ha.eval hx, Instr.sureAddr, run_pure', fieldPlace, hsz, if_neg hne]
    split at h
    · simp at h; subst h; rw [hoff]; simp [Addr.add]
    · simp at h; subst h; rw [hoff]; simp [Addr.add]
  · rename_i src dst x
    split at h <;> try simp at h
    rename_i tsrc hsrc
    split at h <;> try simp at h
    rename_i k s1 s2 s3 hT
    split at h <;> try simp at h
    rename_i k' m hx
    subst h
    have hu := und_int (T.ok _ _ hT) rfl
    obtain ⟨us, hus, _⟩ := (T.ok _ _ hsrc).desc
    simp only [convert, run_bind', run_und hus, run_und hu, ha.eval hx]
    rfl
  · rename_i fn first captured
    have h1 := evalL_arr ha _ _ _ h
    have h2 := evalL_arr ha _ _ _ h1
    simp only [Option.some.injEq] at h2
    subst h2
    simp only [Instr.makeFunc, Array.toArray_toList]
    rfl
  · rename_i args ats
    split at h <;> try simp at h
    rename_i t ht
    split at h <;> try simp at h
    rename_i e s1 s2 s3 hT
    split at h <;> try simp at h
    rename_i x hxs
    split at h <;> try simp at h
    rename_i p m c hx
    subst h
    have hu := und_slice (T.ok _ _ hT) rfl
    have hat : ats = #[t] := by apply Array.ext'; simpa using ht
    have hargs : args = #[x] := by apply Array.ext'; simpa using hxs
    subst hat; subst hargs
    simp [resolve, invoke, builtin, Builtin.len_, ha.eval hx, run_und hu, goInt]
  · simp at h
end
end Go.SX
