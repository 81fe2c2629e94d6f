/- A part of the proofs of this seat's statements: lemmas and contracts, each with its own premises. -/
import Derived.Test.YtddndccbdglmdaaSo
import Derived.Shelf.SlSortCmp.WholeK
import Derived.Shelf.SlSortCmp.NoneTotal
open Go Go.SX
namespace Go.SX
open Go.Proofs (AnyF.slices_SortFunc_none sortWorldK SlLaysF0.n6 ltOf CmpLays AnyQ.slices_SortFunc)
open Go.Sort (HoldsK putRowK flatK SWO PermIn SortedIn)
section
variable {P : Program} {E : Env} {n : Nat} {post : Exit → Act → World → Prop} {dec : List Nat} {ks : List K} {fr : Fr} {h : Heap}
variable {q : Bool} {os : Array Oper} {rest : List Oper} {ty : TypeId} {pos : String} {af : Array Edge} {g : Option (Nat × Bool)} {dst : Option Nat}
theorem X.atIndexV {t : TypeId} {x y : Operand} (k : X P E n post dec (.ops q os (⟨dst, .index t x y, ty, pos, af, g⟩ :: rest) :: ks) fr h) : X P E n post dec (.ops q os (⟨dst, .index t x y, ty, pos, af, g⟩ :: rest) :: ks) fr h := k
theorem X.atCallV {x : Operand} {args : Array Operand} {ats : Array TypeId} (k : X P E n post dec (.ops q os (⟨dst, .call ⟨.value x, args, ats⟩, ty, pos, af, g⟩ :: rest) :: ks) fr h) : X P E n post dec (.ops q os (⟨dst, .call ⟨.value x, args, ats⟩, ty, pos, af, g⟩ :: rest) :: ks) fr h := k
end
theorem flatK_list {α : Type} [Inhabited α] (enc : α → List Value) (k : Nat) (hk : ∀ x, (enc x).length = k) (d : Array α) : (flatK enc k d).toList = d.toList.flatMap enc := by
  apply List.ext_getElem?
  intro t
  by_cases ht : t < d.size * k
  · have k0 : 0 < k := by
      rcases Nat.eq_zero_or_pos k with h | h
      · subst h; simp at ht
      · exact h
    have hi : t / k < d.size := (Nat.div_lt_iff_lt_mul k0).2 ht
    have hj : t % k < k := Nat.mod_lt _ k0
    have h1 := Go.Sort.get_flatK enc k d t ht
    have h2 : d.toList[t / k]? = some d[t / k]! := by simp [hi]
    generalize d[t / k]! = x at h1 h2
    have h3 : (enc x)[t % k]? = some ((enc x)[t % k]!) := by
      rw [List.getElem?_eq_getElem (by rw [hk]; exact hj), getElem!_pos (enc x) (t % k) (by rw [hk]; exact hj)]
    have h4 := flat_get hk d.toList _ _ _ _ h2 h3
    rw [Nat.mul_comm, Nat.div_add_mod] at h4
    rw [h4, ← h1]
    have : t < (flatK enc k d).size := by simpa using ht
    rw [Array.getElem?_toList, Array.getElem?_eq_getElem this, getElem!_pos (flatK enc k d) t this]
  · rw [List.getElem?_eq_none (by simp; omega), List.getElem?_eq_none (by rw [flat_len hk]; simp; omega)]
theorem ext_append {h h' : Heap} (hx : Ext h h') : ∃ os, h' = h ++ os := by
  refine ⟨h'.extract h.size h'.size, ?_⟩
  apply Array.ext_getElem?
  intro i
  by_cases hi : i < h.size
  · rw [hx.old i hi, Array.getElem?_append_left hi]
  · rw [Array.getElem?_append_right (by omega)]
    by_cases h2 : i < h'.size
    · rw [Array.getElem?_extract]
      have := hx.size
      rw [if_pos (by omega)]
      congr 1
      omega
    · rw [Array.getElem?_eq_none (by omega), Array.getElem?_eq_none (by simp; omega)]
theorem putWorld (E : Env) (h : Heap) (d n b : Nat) (zs : Array Value) (os : Array Obj) {cur : Array Value} {e : TypeId} (hb : h[b]? = some (.cells cur e (0, 0))) :
    ∃ h', Go.Sort.grow (Go.Sort.putRow id (Go.Sort.ahead (E.w h d) n) b 0 zs) os = E.w h' (d + n) ∧ h'[b]? = some (.cells (Go.Sort.putCells id 0 zs cur) e (0, 0)) ∧ (∀ k, k < h.size → k ≠ b → h'[k]? = h[k]?) ∧ h.size ≤ h'.size := by
  have hlt : b < h.size := (Array.getElem?_eq_some_iff.1 hb).1
  have e1 : ∀ k, (h.modify b (Go.Sort.onCells (Go.Sort.putCells id 0 zs)))[k]? = if b = k then h[k]?.map (Go.Sort.onCells (Go.Sort.putCells id 0 zs)) else h[k]? := fun k => by
    rw [Array.getElem?_modify]
  refine ⟨h.modify b (Go.Sort.onCells (Go.Sort.putCells id 0 zs)) ++ os, rfl, ?_, ?_, ?_⟩
  · rw [Array.getElem?_append_left (by simpa using hlt), e1, if_pos rfl, hb]
    rfl
  · intro k hk hne
    rw [Array.getElem?_append_left (by simpa using hk), e1, if_neg (Ne.symm hne)]
  · simp
theorem sortFunc_ct {P : Program} {ρ : Go.Shelf.Ren} (Ly : SlLaysF0.n6 P ρ) {α : Type} [Inhabited α] (enc : α → List Value) (k : Nat) (hk : ∀ x, (enc x).length = k) (h1 : ∀ x, ∀ v ∈ enc x, v.oneCell' = true)
    {f : FuncId} (hf : f = ρ.f 6) {e : TypeId} (aE : ∀ w, (isAgg (ρ.t 24)).run P w = .ok true w) (zE : ∀ w, (Go.sizeOf (ρ.t 24)).run P w = .ok k w) (cf : α → α → Int) (hO : SWO (ltOf cf)) (g : Nat) (cb : Array Value)
    (eg : ∀ args w, (callFunc g args).run P w = .ok (.enter g args) w) (hcmp : ∀ (E : Env) (h : Heap) (x y : α), Ct P E g (#[.agg (enc x).toArray, .agg (enc y).toArray] ++ cb) h fun v h' => v = .int .i64 (cf x y) ∧ Ext h h')
    (E : Env) {v : Value} {xs : List α} {R L : List (Nat × Obj)} {h0 h : Heap} {M : Nat → Prop} (hR : RowT enc e k v xs R) (gd : GoodH h0 M (R ++ L) h) (hlen : xs.length < 4611686018427387904) :
    Ct P E f #[v, .func (.func g) #[] cb] h fun u h' => u = .tuple #[] ∧ ∃ xs' R', RowT enc e k v xs' R' ∧ GoodH h0 M (R' ++ L) h' ∧ xs'.Perm xs ∧ ∀ (i j : Nat) (x y : α), i < j → xs'[i]? = some x → xs'[j]? = some y → ltOf cf y x = false := by
  subst hf
  by_cases hne : xs = []
  · subst hne
    have hnil : ∃ p cap, v = .slice p 0 cap := by
      unfold RowT at hR
      simp only [List.length_nil, List.flatMap_nil] at hR
      generalize hn : (0 : Nat) = n at hR
      cases hR with
      | nil => exact ⟨_, _, rfl⟩
      | one b cap cur _ _ _ _ _ _ => subst hn; exact ⟨_, _, rfl⟩
    obtain ⟨p, cap, rfl⟩ := hnil
    intro d h0d cs
    obtain ⟨e', w', fr, ⟨he, hw⟩, rest⟩ := AnyF.slices_SortFunc_none Ly p cap (.func (.func g) #[] cb) (E.w h d) cs
    exact ⟨e', w', fr, ⟨.tuple #[], h, d, h0d, he, hw, rfl, [], R, hR, gd, List.Perm.refl _, by simp⟩, rest⟩
  unfold RowT at hR ⊢
  generalize hn : xs.length = n at hR
  generalize hff : xs.flatMap enc = fl at hR
  cases hR with
  | nil => exact absurd (List.eq_nil_of_length_eq_zero hn) hne
  | one bR cap cur _ _ c1 c2 c3 c4 =>
    subst hn
    intro d h0d
    have hb : h[bR]? = some (.cells cur e (0, 0)) := gd.own (bR, .cells cur e (0, 0)) (by simp)
    have hfk := flatK_list enc k hk xs.toArray
    simp only [] at hfk
    rw [hff] at hfk
    have hfl : fl.length = xs.length * k := by rw [← hff, flat_len hk]
    have hH : HoldsK enc k (E.w h d) bR 0 xs.toArray := by
      intro t ht
      have ht' : t < xs.length * k := by simpa using ht
      have hg : fl[t]? = some ((flatK enc k xs.toArray)[t]!) := by
        rw [← hfk, Array.getElem?_toList, Array.getElem?_eq_getElem ht, getElem!_pos (flatK enc k xs.toArray) t ht]
      refine ⟨?_, ?_⟩
      · rw [cell_w, Nat.zero_add, hcell_of hb]
        rw [← c4, List.getElem?_take_of_lt (by omega)] at hg
        simpa using hg
      · show (E.w h d).frozen? _ = false
        unfold World.frozen?
        show (match h[bR]? with | some (.cells _ _ (lo, hi)) => _ | _ => false) = false
        rw [hb]
        simp
    have hC : CmpLays P g cb enc k cf bR 0 xs.toArray.size (E.w h d) := by
      intro m os dk hsz x y cs
      obtain ⟨e', w', fr, ⟨v', h', d', hd', he', hw', rfl, hx⟩, rest⟩ := hcmp { E with d0 := (sortWorldK enc k (E.w h d) bR 0 m dk os).drawn } (sortWorldK enc k (E.w h d) bR 0 m dk os).heap x y (sortWorldK enc k (E.w h d) bR 0 m dk os).drawn (Nat.le_refl _) cs
      obtain ⟨os', rfl⟩ := ext_append hx
      obtain ⟨q, rfl⟩ : ∃ q, d' = (sortWorldK enc k (E.w h d) bR 0 m dk os).drawn + q := ⟨_, (Nat.add_sub_cancel' hd').symm⟩
      exact ⟨e', w', fr, ⟨he', q, os', hw'⟩, rest⟩
    have hc := AnyQ.slices_SortFunc Ly k aE zE enc hk h1 cf hO g cb bR 0 cap xs.toArray (E.w h d) eg hC hH (Array.getElem?_eq_some_iff.1 hb).1 (by simpa using hlen)
    intro cs
    obtain ⟨e', w', fr, ⟨he, dd, n, os, hP, hS, hw⟩, rest⟩ := hc cs
    obtain ⟨hps, -, hpp⟩ := hP
    have hps : dd.size = xs.length := by simpa using hps
    obtain ⟨h', hw', hb', hne', hsz'⟩ := putWorld E h d n bR (flatK enc k dd) os hb
    have hperm : dd.toList.Perm xs := by
      simpa [hps, Array.extract_eq_self_of_le] using hpp
    refine ⟨e', w', fr, ⟨.tuple #[], h', d + n, Nat.le_trans h0d (Nat.le_add_right d n), he, hw.trans hw', rfl, dd.toList, [(bR, _)], ?_, good_sorted gd hb' hne' hsz', hperm, ?_⟩, rest⟩
    · rw [show dd.toList.length = xs.length from by rw [Array.length_toList]; exact hps]
      have hdl := flatK_list enc k hk dd
      have hdf : (dd.toList.flatMap enc).length = xs.length * k := by rw [flat_len hk, Array.length_toList, hps]
      refine Row.one bR cap _ _ _ c1 c2 ?_ ?_
      · simp [Go.Sort.putCells, c3]
      · rw [← hdl]
        rw [← hdl] at hdf
        apply List.ext_getElem?
        intro j
        have hcs : xs.length * k ≤ cur.size := by
          have := congrArg List.length c4
          rw [hfl] at this
          simp only [List.length_take, Array.length_toList] at this
          omega
        rw [List.getElem?_take]
        split
        · rename_i hj
          have hjs : j < (flatK enc k dd).size := by rw [← Array.length_toList, hdf]; exact hj
          have hjd : j < dd.size * k := by rw [hps]; exact hj
          simp only [Go.Sort.putCells, Array.getElem?_toList, Array.getElem?_mapIdx]
          rw [Array.getElem?_eq_getElem (show j < cur.size by omega), Array.getElem?_eq_getElem hjs]
          simp [hjd]
        · rename_i hj
          rw [List.getElem?_eq_none]
          rw [hdf]
          omega
    · intro i j x y hij hx hy
      have hj := (List.getElem?_eq_some_iff.1 hy).1
      have hjl : j < dd.size := by simpa using hj
      have := hS i j (Nat.zero_le _) hij (by simpa [hps] using hjl)
      rw [getElem!_pos dd j hjl, getElem!_pos dd i (by omega)] at this
      have e1 : dd[i]'(by omega) = x := by
        have := (List.getElem?_eq_some_iff.1 hx).2
        simpa using this
      have e2 : dd[j] = y := by
        have := (List.getElem?_eq_some_iff.1 hy).2
        simpa using this
      rw [e1, e2] at this
      exact this
end Go.SX
