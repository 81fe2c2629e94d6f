/- A part of the proofs of this seat's statements: lemmas and contracts, each with its own premises. -/
import Derived.Test.YtddndccbdglmdaaPm
open Go Go.SX
namespace Go.Proofs.Ty
structure MInv (kp : Bool → Bool → Bool) (xs ys zs : List (Int × Bool)) (st : Mst) : Prop where
  split : xs = ys ++ zs
  a : st.inA = (ys.countP (fun e => e.2 == true) % 2 == 1)
  b : st.inB = (ys.countP (fun e => e.2 == false) % 2 == 1)
  f0 : 0 ≤ st.frm
  le : ∀ e ∈ ys, e.1 ≤ st.frm
  ge : ∀ e ∈ zs, st.frm ≤ e.1
  may : mayR st.out = true
  hi : ∀ r ∈ st.out, r.2 ≤ st.frm
  has : ∀ d, d < st.frm → hasR st.out d = kp (par true d xs) (par false d xs)
theorem par_mid {xs ys zs : List (Int × Bool)} {frm at' d : Int} (hs : xs = ys ++ zs) (hle : ∀ e ∈ ys, e.1 ≤ frm) (hge : ∀ e ∈ zs, at' ≤ e.1) (h1 : frm ≤ d) (h2 : d < at') (f : Bool) :
    par f d xs = (ys.countP (fun e => e.2 == f) % 2 == 1) := by
  subst hs
  unfold par
  rw [cnt_append]
  have e1 : cnt f d ys = ys.countP (fun e => e.2 == f) := by
    unfold cnt
    apply List.countP_congr
    intro e he
    have := hle e he
    simp
    omega
  have e2 : cnt f d zs = 0 := by
    rw [cnt, List.countP_eq_zero]
    intro e he
    have := hge e he
    simp
    omega
  rw [e1, e2, Nat.add_zero]
theorem odd_succ (n : Nat) : ((n + 1) % 2 == 1) = !(n % 2 == 1) := by
  rcases Nat.mod_two_eq_zero_or_one n with h | h
  · have : (n + 1) % 2 = 1 := by omega
    rw [h, this]; rfl
  · have : (n + 1) % 2 = 0 := by omega
    rw [h, this]; rfl
theorem MInv.step {kp : Bool → Bool → Bool} {xs ys zs : List (Int × Bool)} {e : Int × Bool} {st : Mst} (h : MInv kp xs ys (e :: zs) st) (hs : ∀ z ∈ zs, e.1 ≤ z.1) (hb : e.1 ≤ 4294967296) : MInv kp xs (ys ++ [e]) zs (mixStep kp st e) := by
  have hfe : st.frm ≤ e.1 := h.ge e (by simp)
  have hmid : ∀ d, st.frm ≤ d → d < e.1 → ∀ f, par f d xs = (ys.countP (fun e => e.2 == f) % 2 == 1) := fun d h1 h2 f =>
    par_mid h.split h.le (fun z hz => by
      rcases List.mem_cons.1 hz with rfl | hz
      · exact Int.le_refl _
      · exact hs z hz) h1 h2 f
  have hmid2 : ∀ d, st.frm ≤ d → d < e.1 → kp (par true d xs) (par false d xs) = kp st.inA st.inB := fun d h1 h2 => by
    rw [hmid d h1 h2, hmid d h1 h2, ← h.a, ← h.b]
  refine ⟨by rw [h.split]; simp, ?_, ?_, ?_, ?_, hs, ?_, ?_, ?_⟩
  · show (if e.2 = true then !st.inA else st.inA) = _
    rw [List.countP_append, List.countP_singleton]
    by_cases he : e.2 = true
    · rw [if_pos he, h.a, if_pos (by rw [he]; rfl), odd_succ]
    · rw [if_neg he, h.a, if_neg (by simpa using he), Nat.add_zero]
  · show (if e.2 = true then st.inB else !st.inB) = _
    rw [List.countP_append, List.countP_singleton]
    by_cases he : e.2 = true
    · rw [if_pos he, h.b, if_neg (by rw [he]; decide), Nat.add_zero]
    · rw [if_neg he, h.b, if_pos (by simpa using he), odd_succ]
  · exact Int.le_trans h.f0 hfe
  · intro y hy
    show y.1 ≤ e.1
    rcases List.mem_append.1 hy with hy | hy
    · exact Int.le_trans (h.le y hy) hfe
    · simp at hy; subst hy; exact Int.le_refl _
  · show mayR (if _ then _ else _) = true
    split
    · rename_i hc
      simp only [Bool.and_eq_true, decide_eq_true_eq] at hc
      exact addL_may h.may h.hi h.f0 hc.1 hb
    · exact h.may
  · show ∀ r ∈ (if (decide (st.frm < e.1) && kp st.inA st.inB) = true then addL st.out (st.frm, e.1) else st.out), r.2 ≤ e.1
    split
    · rename_i hc
      simp only [Bool.and_eq_true, decide_eq_true_eq] at hc
      exact addL_hi h.hi hc.1
    · intro r hr
      exact Int.le_trans (h.hi r hr) hfe
  · intro d hd
    replace hd : d < e.1 := hd
    show hasR (if _ then _ else _) d = _
    split
    · rename_i hc
      simp only [Bool.and_eq_true, decide_eq_true_eq] at hc
      rw [addL_has h.may hc.1]
      by_cases h1 : d < st.frm
      · rw [h.has d h1, show decide (st.frm ≤ d) = false from decide_eq_false (by omega), Bool.false_and, Bool.or_false]
      · rw [hmid2 d (by omega) hd, hc.2, show decide (st.frm ≤ d) = true from decide_eq_true (by omega), show decide (d < e.1) = true from decide_eq_true hd]
        simp
    · rename_i hc
      by_cases h1 : d < st.frm
      · exact h.has d h1
      · rw [hmid2 d (by omega) hd, hasR_hi h.hi (by omega)]
        have : decide (st.frm < e.1) = true := decide_eq_true (by omega)
        rw [this, Bool.true_and] at hc
        simp only [Bool.not_eq_true] at hc
        rw [hc]
theorem MInv.all {kp : Bool → Bool → Bool} {xs : List (Int × Bool)} (hs : xs.Pairwise fun x y => x.1 ≤ y.1) (hb : ∀ e ∈ xs, e.1 ≤ 4294967296) : ∀ (zs ys : List (Int × Bool)) (st : Mst), MInv kp xs ys zs st → MInv kp xs xs [] (zs.foldl (mixStep kp) st) := by
  intro zs
  induction zs with
  | nil =>
    intro ys st h
    have := h.split
    rw [List.append_nil] at this
    subst this
    exact h
  | cons e zs ih =>
    intro ys st h
    have hp := h.split ▸ hs
    rw [List.pairwise_append, List.pairwise_cons] at hp
    exact ih _ _ (h.step hp.2.1.1 (hb e (by rw [h.split]; simp)))
/-- what mixing makes -/
def Mixed (kp : Bool → Bool → Bool) (a b rs : List (Int × Int)) : Prop := mayR rs = true ∧ ∀ d, hasR rs d = kp (hasR a d) (hasR b d)
theorem Mixed.uniq {kp : Bool → Bool → Bool} {a b rs rs' : List (Int × Int)} (h : Mixed kp a b rs) (h' : Mixed kp a b rs') : rs = rs' :=
  mayR_uniq h.1 h'.1 fun d => (h.2 d).trans (h'.2 d).symm
theorem mixF_mixed {kp : Bool → Bool → Bool} (h00 : kp false false = false) {la lb : List (Int × Int)} (ha : mayR la = true) (hb : mayR lb = true) {xs : List (Int × Bool)} (hp : xs.Perm (endsOf true la ++ endsOf false lb))
    (hs : ∀ (i j : Nat) (x y : Int × Bool), i < j → xs[i]? = some x → xs[j]? = some y → x.1 ≤ y.1) : Mixed kp la lb (mixF kp xs).out := by
  have hbd : ∀ e ∈ xs, 0 ≤ e.1 ∧ e.1 ≤ 4294967296 := fun e he => by
    rcases List.mem_append.1 (hp.mem_iff.1 he) with h | h
    · exact endsOf_bd ha e h
    · exact endsOf_bd hb e h
  have hpw : xs.Pairwise fun x y => x.1 ≤ y.1 := by
    rw [List.pairwise_iff_getElem]
    intro i j hi hj hij
    exact hs i j _ _ hij (List.getElem?_eq_getElem hi) (List.getElem?_eq_getElem hj)
  have inv : MInv kp xs xs [] (mixF kp xs) := by
    refine MInv.all hpw (fun e he => (hbd e he).2) xs [] _ ⟨rfl, rfl, rfl, Int.le_refl _, by simp, fun e he => (hbd e he).1, rfl, by simp, ?_⟩
    intro d hd
    replace hd : d < 0 := hd
    have : ∀ f, par f d xs = false := fun f => by
      unfold par
      have : cnt f d xs = 0 := by
        rw [cnt, List.countP_eq_zero]
        intro e he
        have := (hbd e he).1
        simp
        omega
      rw [this]; rfl
    rw [this, this, h00]
    rfl
  have pA : ∀ d, par true d xs = hasR la d := fun d => by
    unfold par
    rw [cnt_perm hp, cnt_append, cnt_ends_ne (b := false) (f := true) (by decide), Nat.add_zero]
    exact (has_par d ha).symm
  have pB : ∀ d, par false d xs = hasR lb d := fun d => by
    unfold par
    rw [cnt_perm hp, cnt_append, cnt_ends_ne (b := true) (f := false) (by decide), Nat.zero_add]
    exact (has_par d hb).symm
  refine ⟨inv.may, fun d => ?_⟩
  by_cases hd : d < (mixF kp xs).frm
  · rw [inv.has d hd, pA, pB]
  · have hA : hasR la d = false := hasR_hi (t := (mixF kp xs).frm) (fun r hr => inv.le (r.2, true) (hp.mem_iff.2 (List.mem_append_left _ (by
      simp only [endsOf, List.mem_flatMap]; exact ⟨r, hr, by simp⟩)))) (by omega)
    have hB : hasR lb d = false := hasR_hi (t := (mixF kp xs).frm) (fun r hr => inv.le (r.2, false) (hp.mem_iff.2 (List.mem_append_right _ (by
      simp only [endsOf, List.mem_flatMap]; exact ⟨r, hr, by simp⟩)))) (by omega)
    rw [hA, hB, h00]
    exact hasR_hi inv.hi (by omega)
end Go.Proofs.Ty
