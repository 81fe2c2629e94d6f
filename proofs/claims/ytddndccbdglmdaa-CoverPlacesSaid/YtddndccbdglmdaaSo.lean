/- A part of the proofs of this seat's statements: lemmas and contracts, each with its own premises. -/
import Derived.Test.YtddndccbdglmdaaH6
import Derived.Test.YtddndccbdglmdaaShInt
open Go Go.SX
namespace Go.SX
/-- what the library's sort leaves: one block's cells anew, new blocks behind. -/
theorem good_sorted {h0 h : Heap} {M : Nat → Prop} {L : List (Nat × Obj)} {b : Nat} {cur cur' : Array Value} {e : TypeId} (gd : GoodH h0 M ((b, .cells cur e (0, 0)) :: L) h) {h' : Heap}
    (hb : h'[b]? = some (.cells cur' e (0, 0))) (hne : ∀ k, k < h.size → k ≠ b → h'[k]? = h[k]?) (hsz : h.size ≤ h'.size) : GoodH h0 M ((b, .cells cur' e (0, 0)) :: L) h' := by
  have hnd := gd.nd
  simp only [List.map_cons, List.nodup_cons] at hnd
  refine ⟨Nat.le_trans gd.size hsz, fun k hk hM => ?_, by simpa using gd.nd, ?_, ?_⟩
  · have hkb : k ≠ b := by
      rintro rfl
      rcases gd.new (k, .cells cur e (0, 0)) (by simp) with h1 | h1
      · simp at h1; omega
      · exact hM h1
    rw [hne k (Nat.lt_of_lt_of_le hk gd.size) hkb]; exact gd.old k hk hM
  · intro p hp
    rcases List.mem_cons.1 hp with rfl | hp
    · exact hb
    · have hpb : p.1 ≠ b := fun e => hnd.1 (List.mem_map.2 ⟨p, hp, e⟩)
      have hm : p ∈ (b, .cells cur e (0, 0)) :: L := List.mem_cons_of_mem _ hp
      rw [hne _ (gd.lt p hm) hpb]; exact gd.own p hm
  · intro p hp
    rcases List.mem_cons.1 hp with rfl | hp
    · exact gd.new (b, .cells cur e (0, 0)) (by simp)
    · exact gd.new p (List.mem_cons_of_mem _ hp)
theorem map_flat (xs : List Int) : xs.flatMap encInt = xs.map (Value.int .i64) := by
  induction xs with
  | nil => rfl
  | cons x xs ih => simp [List.flatMap_cons, encInt, ih]
end Go.SX
namespace Go.Proofs.Ty
theorem sortWorld (E : Env) (h : Heap) (d n b : Nat) (zs : Array Int) (os : Array Obj) {cur : Array Value} {e : TypeId} (hb : h[b]? = some (.cells cur e (0, 0))) :
    ∃ h', Go.Sort.grow (Go.Sort.putRow (Value.int .i64) (Go.Sort.ahead (E.w h d) n) b 0 zs) os = E.w h' (d + n) ∧ h'[b]? = some (.cells (Go.Sort.putCells (Value.int .i64) 0 zs cur) e (0, 0)) ∧ (∀ k, k < h.size → k ≠ b → h'[k]? = h[k]?) ∧ h.size ≤ h'.size := by
  have hlt : b < h.size := (Array.getElem?_eq_some_iff.1 hb).1
  have e1 : ∀ k, (h.modify b (Go.Sort.onCells (Go.Sort.putCells (Value.int .i64) 0 zs)))[k]? = if b = k then h[k]?.map (Go.Sort.onCells (Go.Sort.putCells (Value.int .i64) 0 zs)) else h[k]? := fun k => by
    rw [Array.getElem?_modify]
  refine ⟨h.modify b (Go.Sort.onCells (Go.Sort.putCells (Value.int .i64) 0 zs)) ++ os, rfl, ?_, ?_, ?_⟩
  · rw [Array.getElem?_append_left (by simpa using hlt), e1, if_pos rfl, hb]
    rfl
  · intro k hk hne
    rw [Array.getElem?_append_left (by simpa using hk), e1, if_neg (Ne.symm hne)]
  · simp
theorem sort_ct (E : Env) {v : Value} {xs : List Int} {R L : List (Nat × Obj)} {h0 h : Heap} {M : Nat → Prop} (hR : RowT encInt 3 1 v xs R) (gd : GoodH h0 M (R ++ L) h) (hne : xs ≠ []) (hlen : xs.length < 4611686018427387904) :
    Ct Try.prog E 77 #[v] h fun u h' => u = .tuple #[] ∧ ∃ R', RowT encInt 3 1 v (xs.mergeSort fun x y => decide (x ≤ y)) R' ∧ GoodH h0 M (R' ++ L) h' := by
  unfold RowT at hR ⊢
  rw [map_flat] at hR
  generalize hn : xs.length = n at hR
  generalize hf : xs.map (Value.int .i64) = f at hR
  cases hR with
  | nil => exact absurd (List.eq_nil_of_length_eq_zero hn) hne
  | one bR cap cur _ _ h1 h2 h3 h4 =>
    subst hn
    intro d h0d
    have hb : h[bR]? = some (.cells cur 3 (0, 0)) := gd.own (bR, .cells cur 3 (0, 0)) (by simp)
    simp only [Nat.mul_one] at h3 h4
    have hget : ∀ j, j < xs.length → cur[j]? = some (Value.int .i64 xs.toArray[j]!) := by
      intro j hj
      have : f[j]? = some (Value.int .i64 xs.toArray[j]!) := by
        rw [← hf]
        simp [hj]
      rw [← h4, List.getElem?_take_of_lt hj] at this
      simpa using this
    have hH : Go.Sort.Holds (Value.int .i64) (E.w h d) bR 0 xs.toArray := by
      intro j hj
      simp only [List.size_toArray] at hj
      refine ⟨?_, ?_⟩
      · rw [cell_w, Nat.zero_add, hcell_of hb]
        exact hget j hj
      · show (E.w h d).frozen? _ = false
        unfold World.frozen?
        show (match h[bR]? with | some (.cells _ _ (lo, hi)) => _ | _ => false) = false
        rw [hb]
        simp
    have hc := Go.Proofs.Try.slices_Sort_int bR 0 cap xs (E.w h d) hH (Array.getElem?_eq_some_iff.1 hb).1 hlen
    intro cs
    obtain ⟨e, w', fr, ⟨he, n, os, hw⟩, rest⟩ := hc cs
    obtain ⟨h', hw', hb', hne', hsz'⟩ := sortWorld E h d n bR (xs.mergeSort fun x y => decide (x ≤ y)).toArray os hb
    refine ⟨e, w', fr, ⟨.tuple #[], h', d + n, Nat.le_trans h0d (Nat.le_add_right d n), he, hw.trans hw', rfl, [(bR, _)], ?_, good_sorted gd hb' hne' hsz'⟩, rest⟩
    rw [map_flat, List.length_mergeSort]
    refine Row.one bR cap _ _ _ h1 h2 ?_ ?_
    · simp [Go.Sort.putCells, h3]
    · apply List.ext_getElem?
      intro j
      rw [Nat.mul_one, List.getElem?_take]
      split
      · rename_i hj
        have hjc : j < cur.size := by omega
        simp only [Go.Sort.putCells, Array.getElem?_toList, Array.getElem?_mapIdx]
        rw [Array.getElem?_eq_getElem hjc]
        simp [hj, List.length_mergeSort]
      · rename_i hj
        rw [List.getElem?_eq_none]
        simp [List.length_mergeSort]
        omega
end Go.Proofs.Ty
