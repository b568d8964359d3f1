/- What the program's BreakStep and the reference's return, for stairs and other numbers alike: the same; and the law that says so comes to true. -/
import Derived.Test.YteiamophnfkgmaaPStairs
import Derived.Test.YteiamophnfkgmaaPInts
namespace Go.Proofs.Yteiamophnfkgmaa.X
open Go.RowKit Go.Proofs.YteiamophnfkgmaaW.PrintWords

/-- A number put among others, behind all that are less at the begin. -/
def putIn (x : Int) : List Int → List Int
  | [] => [x]
  | a :: t => if a < x then a :: putIn x t else x :: a :: t
theorem putIn_perm (x : Int) : ∀ l : List Int, (putIn x l).Perm (l ++ [x])
  | [] => by simp [putIn]
  | a :: t => by
    unfold putIn
    split
    · exact (putIn_perm x t).cons a
    · exact (List.perm_append_comm (l₁ := [x]) (l₂ := a :: t))
theorem putIn_length (x : Int) (l : List Int) : (putIn x l).length = l.length + 1 := by rw [(putIn_perm x l).length_eq]; simp
theorem putIn_sorted (x : Int) : ∀ l : List Int, l.Pairwise (· ≤ ·) → (putIn x l).Pairwise (· ≤ ·)
  | [], _ => by simp [putIn]
  | a :: t, h => by
    rw [List.pairwise_cons] at h
    unfold putIn
    split
    · rename_i hlt
      rw [List.pairwise_cons]
      refine ⟨fun b hb => ?_, putIn_sorted x t h.2⟩
      have hb' := (putIn_perm x t).mem_iff.1 hb
      rw [List.mem_append, List.mem_singleton] at hb'
      rcases hb' with hb' | rfl
      · exact h.1 b hb'
      · omega
    · rename_i hge
      rw [List.pairwise_cons]
      refine ⟨fun b hb => ?_, by rw [List.pairwise_cons]; exact h⟩
      rcases List.mem_cons.1 hb with rfl | hb
      · omega
      · have := h.1 b hb; omega
theorem sort_put (x : Int) (l : List Int) (h : l.Pairwise (· < ·)) : ((l ++ [x]).mergeSort fun x y => decide (x ≤ y)) = putIn x l := by
  have hl : l.Pairwise (· ≤ ·) := h.imp (fun hab => by omega)
  refine List.Perm.eq_of_pairwise (le := fun a b => a ≤ b) (fun a b _ _ h1 h2 => by omega) ?_ (putIn_sorted x l hl) ((List.mergeSort_perm _ _).trans (putIn_perm x l).symm)
  have := List.pairwise_mergeSort (le := fun x y : Int => decide (x ≤ y)) (fun a b c h1 h2 => by simp at *; omega) (fun a b => by simp; omega) (l ++ [x])
  exact this.imp (fun hab => by simpa using hab)
theorem putIn_split (x : Int) (l : List Int) (j : Nat) (hj : j < l.length) (h : ∀ i, (hi : i < j) → l[i]'(by omega) < x) : putIn x l = l.take j ++ putIn x (l.drop j) := by
  induction l generalizing j with
  | nil => simp at hj
  | cons a t ih =>
    cases j with
    | zero => simp
    | succ j =>
      have h0 : a < x := h 0 (by omega)
      simp only [List.take_succ_cons, List.drop_succ_cons, List.cons_append]
      rw [putIn, if_pos h0, ih j (by simpa using hj) (fun i hi => h (i + 1) (by omega))]
theorem l1Put_f (l : List Int) (x : Int) (hx : x ∉ l) (hl : l.length ≤ 1000000) {k : Nat} (hk : l.length < k) : spec_l1Put.f k l x = some (putIn x l) := by
  have h := scan (n := l.length) (fun k j => spec_l1Put.l0 k l x (j : Int)) (fun j => l.take j ++ putIn x (l.drop j)) (fun k => by
      simp only [spec_l1Put.l0, Int.toNat_natCast]
      rw [if_neg (by omega)]
      simp [putIn]
      omega) (fun k j hj ih => by
      simp only [spec_l1Put.l0, Int.toNat_natCast]
      have hp : putIn x (l.drop j) = if l[j] < x then l[j] :: putIn x (l.drop (j + 1)) else x :: l.drop j := by rw [drop_cons hj, putIn]
      rw [if_pos (by omega), if_pos (by omega), wnat hj (by omega), ih, rd_lt hj, hp]
      by_cases h1 : l[j] < x
      · rw [if_pos h1, if_pos h1]
        congr 1
        rw [List.take_succ_eq_append_getElem hj, List.append_assoc]; rfl
      · rw [if_neg h1, if_neg h1, if_neg (by intro e; exact hx (e ▸ List.getElem_mem hj))]
        have h2 : (l.take j).length = j := by simp; omega
        simp only [Option.bind_some, List.length_nil, List.nil_append, List.length_append, List.length_singleton, List.length_drop, h2]
        rw [if_pos (by omega), if_pos (by omega), if_pos (by omega), if_pos (by omega)]; simp) 0 k (by omega) (by omega)
  unfold spec_l1Put.f
  simpa using h

/-- What BreakStep returns. -/
noncomputable def brk (n : Int) (st br : List Int) (x : Int) : Int × List Int × List Int × Bool :=
  @ite _ (Good n st br ∧ 1 ≤ x ∧ x ≤ n - 1 ∧ x ∉ br) (Classical.propDecidable _) (n, st, putIn x br, true) (0, [], [], false)
theorem brk_len (n : Int) (st br : List Int) (x : Int) : (brk n st br x).2.1.length ≤ 5 ∧ (brk n st br x).2.2.1.length ≤ 61 := by
  unfold brk
  split
  · rename_i h
    exact ⟨h.1.s5, by rw [putIn_length]; have := h.1.br_len; omega⟩
  · simp
theorem spec_BreakStep_f (n : Int) (st br : List Int) (x : Int) (hs : st.length ≤ 1048576) (hb : br.length ≤ 1048576) {k : Nat} (hk : 1048576 < k) : spec_BreakStep.f k n st br x = some (brk n st br x) := by
  unfold spec_BreakStep.f
  rw [clGood_f n st br (by omega) (by omega) (by omega) (by omega), Option.bind_some]
  by_cases h1 : Good n st br
  · have := h1.n1; have := h1.n60; have := h1.s5; have := h1.br_len
    rw [if_pos (tv_true h1), w64 (by omega) (by omega), l1In_f, Option.bind_some]
    by_cases h2 : 1 ≤ x ∧ x ≤ n - 1
    · rw [if_pos (tv_true h2), l1Has_f br x (by omega) (by omega), Option.bind_some]
      by_cases h3 : x ∈ br
      · rw [if_pos (tv_true h3), brk, if_neg (by simp [h3])]
      · rw [if_neg (by rw [tv_iff]; exact h3), brk, if_pos ⟨h1, h2.1, h2.2, h3⟩]
        unfold spec_clBreak.f
        rw [l1Own_f st (by omega), l1Put_f br x h3 (by omega) (by omega)]; rfl
    · rw [if_neg (by rw [tv_iff]; exact h2), brk, if_neg (fun h => h2 ⟨h.2.1, h.2.2.1⟩)]
  · rw [if_neg (by rw [tv_iff]; exact h1), brk, if_neg (fun h => h1 h.1)]
theorem impl_BreakStep_f (n : Int) (st br : List Int) (x : Int) (hs : st.length ≤ 1048576) (hb : br.length ≤ 1048576) {k : Nat} (hk : 1048577 < k) : impl_BreakStep.f k n st br x = some (brk n st br x) := by
  obtain ⟨k, rfl⟩ : ∃ m, k = m + 1 := ⟨k - 1, by omega⟩
  unfold impl_BreakStep.f
  simp only [impl_BreakStep.j0]
  rw [AreStairs_f n st br (by omega) (by omega) (by omega) (by omega), Option.bind_some]
  by_cases h1 : Good n st br
  · have := h1.n1; have := h1.n60; have := h1.s5; have := h1.br_len
    rw [if_pos (tv_true h1), w64 (by omega) (by omega), within_f, Option.bind_some]
    by_cases h2 : 1 ≤ x ∧ x ≤ n - 1
    · rw [if_pos (tv_true h2), isBroken_f n st br x (by omega) (by omega), Option.bind_some]
      by_cases h3 : x ∈ br
      · rw [if_pos (tv_true h3), brk, if_neg (by simp [h3])]
      · rw [if_neg (by rw [tv_iff]; exact h3), brk, if_pos ⟨h1, h2.1, h2.2, h3⟩, copied_f n st br (by omega) (by omega), Option.bind_some]
        simp only []
        rw [if_pos (by omega), slices_Sort_int_int.f, if_pos (by simp; omega), sort_put x br h1.br.2]; rfl
    · rw [if_neg (by rw [tv_iff]; exact h2), if_pos trivial, brk, if_neg (fun h => h2 ⟨h.2.1, h.2.2.1⟩)]
  · rw [if_neg (by rw [tv_iff]; exact h1), if_pos trivial, brk, if_neg (fun h => h1 h.1)]
theorem toStairs_f (n : Int) (st br : List Int) (hs : st.length ≤ 1048576) (hb : br.length ≤ 1048576) {k : Nat} (hk : 1048576 < k) : laws_toStairs.f k n st br = some (n, st, br) := by
  unfold laws_toStairs.f
  rw [toIntS_f st hs (by omega), Option.bind_some, toIntS_f br hb (by omega)]; rfl
theorem eqStairs_same (n : Int) (st br : List Int) (hs : st.length ≤ 1048576) (hb : br.length ≤ 1048576) {k : Nat} (hk : 1048576 < k) : laws_eqStairs.f k n st br n st br = some true := by
  unfold laws_eqStairs.f
  rw [if_pos rfl, eqIntS_same st (by omega) (by omega), Option.bind_some, if_pos rfl, eqIntS_same br (by omega) (by omega)]; rfl
theorem markStairs_f (n : Int) (st br : List Int) (hs : st.length ≤ 1048576) (hb : br.length ≤ 1048576) {k : Nat} (hk : 1048576 < k) :
    laws_markStairs.f k n st br 1 = some ((1 : Int) + st.length + br.length, marks 1 st.length, marks (1 + (st.length : Int)) br.length) := by
  unfold laws_markStairs.f
  rw [markIntS_f st 1 (by omega) (by omega) (by omega) (by omega), Option.bind_some]
  simp only []
  rw [markIntS_f br _ (by omega) (by omega) (by omega) (by omega)]; rfl
theorem heldStairs_f (n : Int) (a b : Nat) (hs : a ≤ 1048576) (hb : b ≤ 1048576) {k : Nat} (hk : 1048576 < k) :
    laws_heldStairs.f k n (marks 1 a) (marks (1 + (a : Int)) b) 1 = some ((1 : Int) + a + b) := by
  unfold laws_heldStairs.f
  rw [heldIntS_f 1 a (by omega) (by omega) (by omega) (by omega), Option.bind_some, if_neg (by omega), heldIntS_f (1 + a) b (by omega) (by omega) (by omega) (by omega), Option.bind_some, if_neg (by omega)]
theorem law_BreakStep (n : Int) (st br : List Int) (x : Int) (hs : st.length ≤ 9223372036854775807) (hb : br.length ≤ 9223372036854775807) : ∃ k, laws_FnExactBreakStep.f k n st br x = some true := by
  refine ⟨1048600, ?_⟩
  unfold laws_FnExactBreakStep.f laws_szStairs.f
  rw [szIntS_f st 1048576 (by omega) (by omega) hs, Option.bind_some]
  by_cases h1 : (1048576 : Int) - st.length < 0
  · rw [if_pos h1, if_pos (by omega), Option.bind_some, if_pos (by omega)]
  rw [if_neg h1, if_neg h1, szIntS_f br _ (by omega) (by omega) hb, Option.bind_some]
  by_cases h2 : (1048576 : Int) - st.length - br.length < 0
  · rw [if_pos h2, if_pos (by omega), Option.bind_some, if_pos (by omega)]
  rw [if_neg h2, if_neg h2, Option.bind_some, if_neg h2]
  have hs' : st.length ≤ 1048576 := by omega
  have hb' : br.length ≤ 1048576 := by omega
  have hr := brk_len n st br x
  rw [toStairs_f n st br hs' hb' (by omega), Option.bind_some]
  simp only []
  rw [spec_BreakStep_f n st br x hs' hb' (by omega), Option.bind_some, Option.bind_some, impl_BreakStep_f n st br x hs' hb' (by omega), Option.bind_some]
  generalize hq : brk n st br x = q at hr ⊢
  obtain ⟨q1, q2, q3, q4⟩ := q
  simp only [] at hr ⊢
  rw [eqStairs_same q1 q2 q3 (by omega) (by omega) (by omega), Option.bind_some, if_pos rfl]
  simp only [laws_FnExactBreakStep.j0, laws_FnExactBreakStep.j1, laws_FnExactBreakStep.j2, bne_self_eq_false, Bool.false_eq_true, if_false]
  rw [toStairs_f n st br hs' hb' (by omega), Option.bind_some, eqStairs_same n st br hs' hb' (by omega), Option.bind_some, if_pos rfl, markStairs_f n st br hs' hb' (by omega), Option.bind_some]
  simp only []
  rw [if_neg (by omega), eqStairs_same q1 q2 q3 (by omega) (by omega) (by omega), Option.bind_some, if_pos rfl, markStairs_f q1 q2 q3 (by omega) (by omega) (by omega), Option.bind_some]
  simp only []
  rw [heldStairs_f q1 q2.length q3.length (by omega) (by omega) (by omega), Option.bind_some, if_neg (by omega), if_pos rfl, toStairs_f n st br hs' hb' (by omega), Option.bind_some]
  simp only []
  rw [impl_BreakStep_f n st br x hs' hb' (by omega), Option.bind_some, hq]
  simp only [bne_self_eq_false, Bool.false_eq_true, if_false]
  rw [eqStairs_same q1 q2 q3 (by omega) (by omega) (by omega), Option.bind_some, if_pos rfl, heldStairs_f q1 q2.length q3.length (by omega) (by omega) (by omega), Option.bind_some, if_neg (by omega), if_pos rfl]
end Go.Proofs.Yteiamophnfkgmaa.X
