/- A part of the proofs of this seat's statements: lemmas and contracts, each with its own premises. -/
import Derived.Test.YtddndccbdglmdaaMx
open Go Go.SX
namespace Go.Proofs.Ty
def hasR (rs : List (Int × Int)) (d : Int) : Bool := rs.any fun r => decide (r.1 ≤ d) && decide (d < r.2)
theorem hasR_nil (d : Int) : hasR [] d = false := rfl
theorem hasR_cons (r : Int × Int) (rs : List (Int × Int)) (d : Int) : hasR (r :: rs) d = ((decide (r.1 ≤ d) && decide (d < r.2)) || hasR rs d) := rfl
theorem hasR_append (a b : List (Int × Int)) (d : Int) : hasR (a ++ b) d = (hasR a d || hasR b d) := by simp [hasR]
theorem hasR_hi {rs : List (Int × Int)} {t d : Int} (h : ∀ r ∈ rs, r.2 ≤ t) (hd : t ≤ d) : hasR rs d = false := by
  rw [hasR, List.any_eq_false]
  intro r hr
  have := h r hr
  simp
  omega
theorem may_cons {p : Option Int} {r : Int × Int} {rs : List (Int × Int)} : mayFrom p (r :: rs) = true ↔ (0 ≤ r.1 ∧ r.1 < r.2 ∧ r.2 ≤ 4294967296) ∧ (∀ t, p = some t → t < r.1) ∧ mayFrom (some r.2) rs = true := by
  cases p <;> simp [mayFrom, and_assoc]
theorem may_lo {rs : List (Int × Int)} : ∀ {t : Int}, mayFrom (some t) rs = true → ∀ r ∈ rs, t < r.1 := by
  induction rs with
  | nil => simp
  | cons a rs ih =>
    intro t h r hr
    rw [may_cons] at h
    have h1 := h.2.1 t rfl
    rcases List.mem_cons.1 hr with rfl | hr
    · exact h1
    · have := ih h.2.2 r hr
      omega
theorem has_lo {rs : List (Int × Int)} {t d : Int} (h : mayFrom (some t) rs = true) (hd : d ≤ t) : hasR rs d = false := by
  rw [hasR, List.any_eq_false]
  intro r hr
  have := may_lo h r hr
  simp
  omega
theorem may_weak {rs : List (Int × Int)} {p : Option Int} (h : mayFrom p rs = true) : mayFrom none rs = true := by
  cases rs with
  | nil => rfl
  | cons a rs => rw [may_cons] at *; exact ⟨h.1, by simp, h.2.2⟩
theorem may_uniq : ∀ {a b : List (Int × Int)}, mayFrom none a = true → mayFrom none b = true → (∀ d, hasR a d = hasR b d) → a = b := by
  intro a
  induction a with
  | nil =>
    intro b _ hb h
    cases b with
    | nil => rfl
    | cons s b =>
      rw [may_cons] at hb
      have := h s.1
      rw [hasR_cons] at this
      simp [hasR_nil] at this
      omega
  | cons r a ih =>
    intro b ha hb h
    rw [may_cons] at ha
    cases b with
    | nil =>
      have := h r.1
      rw [hasR_cons] at this
      simp [hasR_nil] at this
      omega
    | cons s b =>
      rw [may_cons] at hb
      have key : ∀ (r s : Int × Int) (a b : List (Int × Int)), (0 ≤ r.1 ∧ r.1 < r.2 ∧ r.2 ≤ 4294967296) → (0 ≤ s.1 ∧ s.1 < s.2 ∧ s.2 ≤ 4294967296) → mayFrom (some r.2) a = true → mayFrom (some s.2) b = true →
          (∀ d, hasR (r :: a) d = hasR (s :: b) d) → s.1 ≤ r.1 ∧ (r.1 = s.1 → s.2 ≤ r.2) := by
        intro r s a b hr hs ha hb h
        refine ⟨?_, fun e => ?_⟩
        · have h1 := h r.1
          rw [hasR_cons, hasR_cons] at h1
          apply Classical.byContradiction
          intro hn
          have h2 := has_lo hb (show r.1 ≤ s.2 by omega)
          rw [h2] at h1
          have e1 : (decide (r.1 ≤ r.1) && decide (r.1 < r.2)) = true := by simp; omega
          have e2 : (decide (s.1 ≤ r.1) && decide (r.1 < s.2)) = false := by simp; omega
          rw [e1, e2] at h1
          simp at h1
        · have h1 := h r.2
          rw [hasR_cons, hasR_cons] at h1
          apply Classical.byContradiction
          intro hn
          have h2 := has_lo ha (Int.le_refl _)
          rw [h2] at h1
          have e1 : (decide (r.1 ≤ r.2) && decide (r.2 < r.2)) = false := by simp
          have e2 : (decide (s.1 ≤ r.2) && decide (r.2 < s.2)) = true := by simp; omega
          rw [e1, e2] at h1
          simp at h1
      have k1 := key r s a b ha.1 hb.1 ha.2.2 hb.2.2 h
      have k2 := key s r b a hb.1 ha.1 hb.2.2 ha.2.2 (fun d => (h d).symm)
      have e1 : r.1 = s.1 := by omega
      have e2 : r.2 = s.2 := by have := k1.2 e1; have := k2.2 e1.symm; omega
      obtain rfl : r = s := Prod.ext e1 e2
      congr 1
      refine ih (may_weak ha.2.2) (may_weak hb.2.2) fun d => ?_
      by_cases hd : d < r.2
      · rw [has_lo ha.2.2 (by omega), has_lo hb.2.2 (by omega)]
      · have := h d
        rw [hasR_cons, hasR_cons] at this
        have e : (decide (r.1 ≤ d) && decide (d < r.2)) = false := by simp; omega
        rw [e] at this
        simpa using this
/-- ranges that are one another's -/
theorem mayR_uniq {a b : List (Int × Int)} (ha : mayR a = true) (hb : mayR b = true) (h : ∀ d, hasR a d = hasR b d) : a = b := may_uniq ha hb h

def lastTo (p : Option Int) (rs : List (Int × Int)) : Option Int := rs.foldl (fun _ r => some r.2) p
theorem may_snoc (rs : List (Int × Int)) (r : Int × Int) : ∀ p, mayFrom p (rs ++ [r]) = true ↔ mayFrom p rs = true ∧ (0 ≤ r.1 ∧ r.1 < r.2 ∧ r.2 ≤ 4294967296) ∧ ∀ t, lastTo p rs = some t → t < r.1 := by
  induction rs with
  | nil => intro p; simp only [List.nil_append, may_cons, lastTo, List.foldl_nil]; simp [mayFrom]
  | cons a rs ih =>
    intro p
    rw [List.cons_append, may_cons, may_cons, ih]
    simp only [lastTo, List.foldl_cons]
    constructor <;> intro h <;> simp_all
theorem lastTo_snoc (p : Option Int) (rs : List (Int × Int)) (r : Int × Int) : lastTo p (rs ++ [r]) = some r.2 := by simp [lastTo]
theorem lastTo_mem {rs : List (Int × Int)} {t : Int} (h : lastTo none rs = some t) : ∃ r ∈ rs, r.2 = t := by
  rcases List.eq_nil_or_concat rs with rfl | ⟨ys, l, rfl⟩
  · simp [lastTo] at h
  · rw [List.concat_eq_append] at *
    rw [lastTo_snoc] at h
    exact ⟨l, by simp, by simpa using h⟩
theorem addL_may {rs : List (Int × Int)} {f t : Int} (hm : mayR rs = true) (hi : ∀ r ∈ rs, r.2 ≤ f) (h0 : 0 ≤ f) (hft : f < t) (ht : t ≤ 4294967296) : mayR (addL rs (f, t)) = true := by
  rcases List.eq_nil_or_concat rs with rfl | ⟨ys, l, rfl⟩
  · simp [addL, mayR, mayFrom]; omega
  · rw [List.concat_eq_append] at *
    rw [addL_snoc]
    have hl := hi l (by simp)
    have hm' := (may_snoc ys l none).1 hm
    split
    · rename_i e
      refine (may_snoc ys _ none).2 ⟨hm'.1, ?_, hm'.2.2⟩
      simp only at e ⊢
      omega
    · rename_i e
      rw [show ys ++ [l, (f, t)] = (ys ++ [l]) ++ [(f, t)] from by simp]
      refine (may_snoc _ _ none).2 ⟨hm, by simp only; omega, ?_⟩
      intro u hu
      rw [lastTo_snoc] at hu
      simp only [Option.some.injEq] at hu
      simp only at e ⊢
      omega
theorem addL_has {rs : List (Int × Int)} {f t : Int} (hm : mayR rs = true) (hft : f < t) (d : Int) : hasR (addL rs (f, t)) d = (hasR rs d || (decide (f ≤ d) && decide (d < t))) := by
  rcases List.eq_nil_or_concat rs with rfl | ⟨ys, l, rfl⟩
  · simp [addL, hasR]
  · rw [List.concat_eq_append] at *
    rw [addL_snoc]
    have hm' := ((may_snoc ys l none).1 hm).2.1
    split
    · rename_i e
      simp only at e
      rw [hasR_append, hasR_append, Bool.or_assoc]
      congr 1
      simp only [hasR_cons, hasR_nil, Bool.or_false]
      rw [Bool.eq_iff_iff]
      simp
      omega
    · rw [show ys ++ [l, (f, t)] = (ys ++ [l]) ++ [(f, t)] from by simp, hasR_append]
      simp [hasR_cons, hasR_nil]
theorem addL_hi {rs : List (Int × Int)} {f t : Int} (hi : ∀ r ∈ rs, r.2 ≤ f) (hft : f < t) : ∀ r ∈ addL rs (f, t), r.2 ≤ t := by
  intro r hr
  rcases List.eq_nil_or_concat rs with rfl | ⟨ys, l, rfl⟩
  · simp [addL] at hr; subst hr; simp
  · rw [List.concat_eq_append] at *
    rw [addL_snoc] at hr
    split at hr
    · simp only [List.mem_append, List.mem_singleton] at hr
      rcases hr with hr | rfl
      · have := hi r (by simp [hr]); omega
      · simp
    · simp only [List.mem_append, List.mem_cons, List.not_mem_nil, or_false] at hr
      rcases hr with hr | rfl | rfl
      · have := hi r (by simp [hr]); omega
      · have := hi r (by simp); omega
      · simp
/-- how many ends of a side lie at a place or ahead of it -/
def cnt (f : Bool) (d : Int) (xs : List (Int × Bool)) : Nat := xs.countP fun e => (e.2 == f) && decide (e.1 ≤ d)
def par (f : Bool) (d : Int) (xs : List (Int × Bool)) : Bool := cnt f d xs % 2 == 1
theorem cnt_append (f : Bool) (d : Int) (a b : List (Int × Bool)) : cnt f d (a ++ b) = cnt f d a + cnt f d b := by simp [cnt]
theorem cnt_perm {f : Bool} {d : Int} {a b : List (Int × Bool)} (h : a.Perm b) : cnt f d a = cnt f d b := h.countP_eq _
theorem cnt_ends_ne {f b : Bool} (hb : b ≠ f) (d : Int) (rs : List (Int × Int)) : cnt f d (endsOf b rs) = 0 := by
  rw [cnt, List.countP_eq_zero]
  intro e he
  simp only [endsOf, List.mem_flatMap, List.mem_cons, List.not_mem_nil, or_false] at he
  obtain ⟨r, _, rfl | rfl⟩ := he <;> simp [hb]
theorem endsOf_cons (b : Bool) (r : Int × Int) (rs : List (Int × Int)) : endsOf b (r :: rs) = (r.1, b) :: (r.2, b) :: endsOf b rs := rfl
theorem cnt_lo {b : Bool} {rs : List (Int × Int)} {t d : Int} (h : mayFrom (some t) rs = true) (hd : d ≤ t) : cnt b d (endsOf b rs) = 0 := by
  rw [cnt, List.countP_eq_zero]
  intro e he
  simp only [endsOf, List.mem_flatMap, List.mem_cons, List.not_mem_nil, or_false] at he
  obtain ⟨r, hr, he⟩ := he
  have := may_lo h r hr
  have := may_bd h r hr
  rcases he with rfl | rfl <;> simp <;> omega
theorem has_par {b : Bool} {rs : List (Int × Int)} (d : Int) : ∀ {p : Option Int}, mayFrom p rs = true → hasR rs d = (cnt b d (endsOf b rs) % 2 == 1) := by
  induction rs with
  | nil => intro p _; rfl
  | cons r rs ih =>
    intro p h
    rw [may_cons] at h
    rw [hasR_cons, endsOf_cons]
    have e : cnt b d ((r.1, b) :: (r.2, b) :: endsOf b rs) = (if r.1 ≤ d then 1 else 0) + (if r.2 ≤ d then 1 else 0) + cnt b d (endsOf b rs) := by
      simp only [cnt, List.countP_cons, beq_self_eq_true, Bool.true_and, decide_eq_true_eq]
      omega
    rw [e]
    by_cases h2 : r.2 ≤ d
    · rw [if_pos (by omega), if_pos h2, ih h.2.2]
      have : (decide (r.1 ≤ d) && decide (d < r.2)) = false := by simp; omega
      rw [this, Bool.false_or]
      congr 1
      omega
    · rw [if_neg h2, cnt_lo h.2.2 (by omega), has_lo h.2.2 (by omega), Bool.or_false]
      by_cases h1 : r.1 ≤ d
      · rw [if_pos h1]; simp; omega
      · rw [if_neg h1]; simp; omega
end Go.Proofs.Ty
