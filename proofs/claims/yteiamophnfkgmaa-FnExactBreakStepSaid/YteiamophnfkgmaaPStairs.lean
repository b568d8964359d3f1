/- When the program and the reference take numbers for stairs, and whether a list has a number: both answer alike. -/
import Derived.Test.YteiamophnfkgmaaXxF0
import Derived.Test.YteiamophnfkgmaaPBase
namespace Go.Proofs.Yteiamophnfkgmaa.X
open Go.RowKit Go.Proofs.YteiamophnfkgmaaW.PrintWords

theorem within_f (a lo hi : Int) : impl_within.f a lo hi = some (tv (lo ≤ a ∧ a ≤ hi)) := by
  unfold impl_within.f
  by_cases h : lo ≤ a
  · rw [if_pos h, tv_decide]; congr 1; exact tv_congr (by simp [h])
  · rw [if_neg h, tv_false (by simp [h])]
theorem l1In_f (a lo hi : Int) : spec_l1In.f a lo hi = some (tv (lo ≤ a ∧ a ≤ hi)) := by
  unfold spec_l1In.f
  by_cases h : lo ≤ a
  · rw [if_pos h, tv_decide]; congr 1; exact tv_congr (by simp [h])
  · rw [if_neg h, tv_false (by simp [h])]
/-- Rising from place j on, the element before it looked at, too. -/
def RiseFrom (l : List Int) (lo hi : Int) (j : Nat) : Prop := ∀ i, j ≤ i → (h : i < l.length) → (lo ≤ l[i] ∧ l[i] ≤ hi) ∧ (0 < i → l[i - 1]'(by omega) < l[i])
theorem RiseFrom.step {l : List Int} {lo hi : Int} {j : Nat} (h : j < l.length) : RiseFrom l lo hi j ↔ ((lo ≤ l[j] ∧ l[j] ≤ hi) ∧ (0 < j → l[j - 1]'(by omega) < l[j])) ∧ RiseFrom l lo hi (j + 1) := by
  constructor
  · intro H; exact ⟨H j (Nat.le_refl _) h, fun i hi => H i (by omega)⟩
  · rintro ⟨h1, h2⟩ i hi hl
    rcases Nat.lt_or_ge j i with hji | hji
    · exact h2 i hji hl
    · obtain rfl : i = j := by omega
      exact h1
/-- Strictly increasing, and within bounds. -/
def Rising (l : List Int) (lo hi : Int) : Prop := (∀ x ∈ l, lo ≤ x ∧ x ≤ hi) ∧ l.Pairwise (· < ·)
theorem riseFrom_zero {l : List Int} {lo hi : Int} : RiseFrom l lo hi 0 ↔ Rising l lo hi := by
  constructor
  · intro H
    refine ⟨fun x hx => ?_, ?_⟩
    · obtain ⟨i, hi, rfl⟩ := List.getElem_of_mem hx
      exact (H i (Nat.zero_le _) hi).1
    · rw [List.pairwise_iff_getElem]
      intro i j hi hj hij
      have key : ∀ d, ∀ j, i + 1 + d = j → (hj : j < l.length) → l[i] < l[j] := by
        intro d
        induction d with
        | zero =>
          intro j e hj
          obtain rfl : j = i + 1 := by omega
          exact (H (i + 1) (Nat.zero_le _) hj).2 (by omega)
        | succ d ih =>
          intro j e hj
          have h1 := ih (j - 1) (by omega) (by omega)
          have h2 := (H j (Nat.zero_le _) hj).2 (by omega)
          omega
      exact key (j - i - 1) j (by omega) hj
  · rintro ⟨h1, h2⟩ i _ hi
    refine ⟨h1 _ (List.getElem_mem hi), fun h0 => ?_⟩
    rw [List.pairwise_iff_getElem] at h2
    exact h2 (i - 1) i (by omega) hi (by omega)
theorem rise_f (l : List Int) (lo hi : Int) (hl : l.length ≤ 140737488355328) {k : Nat} (hk : l.length < k) : impl_rise.f k l lo hi = some (tv (Rising l lo hi)) := by
  unfold impl_rise.f
  have h := scan (n := l.length) (fun k j => impl_rise.l0 k l lo hi l (l.length : Int) (j : Int)) (fun j => tv (RiseFrom l lo hi j)) (fun k => by
      simp only [impl_rise.l0]
      rw [if_neg (by omega), tv_true (show RiseFrom l lo hi l.length from fun i h1 h2 => by omega)]) (fun k j hj ih => by
      simp only [impl_rise.l0, within_f, Option.bind_some]
      rw [if_pos (by omega), if_pos (by omega), if_pos (by omega), wnat hj (by omega), ih, rd_lt hj]
      by_cases h1 : lo ≤ l[j] ∧ l[j] ≤ hi
      · rw [if_pos (tv_true h1)]
        by_cases h2 : 0 < j
        · have e : wrap64 ((j : Int) - 1) = ((j - 1 : Nat) : Int) := by rw [w64 (by omega) (by omega)]; omega
          rw [if_pos (by omega), e, if_pos (by omega), if_pos (by omega), rd_lt (show j - 1 < l.length by omega)]
          by_cases h3 : l[j - 1] < l[j]
          · rw [if_neg (by omega)]; congr 1; exact tv_congr (by rw [RiseFrom.step hj]; simp [h1, h3])
          · rw [if_pos (by omega), tv_false]; rw [RiseFrom.step hj]; simp [h2, h3]
        · rw [if_neg (by omega)]; congr 1; exact tv_congr (by rw [RiseFrom.step hj]; simp [h1, h2])
      · rw [if_neg (by rw [tv_iff]; exact h1), tv_false]; rw [RiseFrom.step hj]; exact fun h => h1 h.1.1) 0 k (by omega) (by omega)
  exact h.trans (congrArg some (tv_congr riseFrom_zero))
theorem l1Rising_f (l : List Int) (lo hi : Int) (hl : l.length ≤ 140737488355328) {k : Nat} (hk : l.length < k) : spec_l1Rising.f k l lo hi = some (tv (Rising l lo hi)) := by
  unfold spec_l1Rising.f
  have h := scan (n := l.length) (fun k j => spec_l1Rising.l0 k l lo hi l (l.length : Int) (j : Int)) (fun j => tv (RiseFrom l lo hi j)) (fun k => by
      simp only [spec_l1Rising.l0]
      rw [if_neg (by omega), tv_true (show RiseFrom l lo hi l.length from fun i h1 h2 => by omega)]) (fun k j hj ih => by
      simp only [spec_l1Rising.l0, l1In_f, Option.bind_some]
      rw [if_pos (by omega), if_pos (by omega), if_pos (by omega), wnat hj (by omega), ih, rd_lt hj]
      by_cases h1 : lo ≤ l[j] ∧ l[j] ≤ hi
      · rw [if_pos (tv_true h1)]
        by_cases h2 : 0 < j
        · have e : wrap64 ((j : Int) - 1) = ((j - 1 : Nat) : Int) := by rw [w64 (by omega) (by omega)]; omega
          rw [if_pos (by omega), e, if_pos (by omega), if_pos (by omega), rd_lt (show j - 1 < l.length by omega)]
          by_cases h3 : l[j - 1] < l[j]
          · rw [if_neg (by omega)]; congr 1; exact tv_congr (by rw [RiseFrom.step hj]; simp [h1, h3])
          · rw [if_pos (by omega), tv_false]; rw [RiseFrom.step hj]; simp [h2, h3]
        · rw [if_neg (by omega)]; congr 1; exact tv_congr (by rw [RiseFrom.step hj]; simp [h1, h2])
      · rw [if_neg (by rw [tv_iff]; exact h1), tv_false]; rw [RiseFrom.step hj]; exact fun h => h1 h.1.1) 0 k (by omega) (by omega)
  exact h.trans (congrArg some (tv_congr riseFrom_zero))

/-- Stairs, as chapter 1 has them. -/
structure Good (n : Int) (st br : List Int) : Prop where
  n1 : 1 ≤ n
  n60 : n ≤ 60
  s1 : 1 ≤ st.length
  s5 : st.length ≤ 5
  st : Rising st 1 9
  br : Rising br 1 (n - 1)
theorem AreStairs_f (n : Int) (st br : List Int) (hs : st.length ≤ 140737488355328) (hb : br.length ≤ 140737488355328) {k : Nat} (hk : st.length < k) (hk2 : br.length < k) :
    impl_AreStairs.f k n st br = some (tv (Good n st br)) := by
  unfold impl_AreStairs.f
  simp only [within_f, Option.bind_some, rise_f st 1 9 hs hk]
  by_cases h1 : 1 ≤ n ∧ n ≤ 60
  · rw [if_pos (tv_true h1), rise_f br 1 _ hb hk2, w64 (by omega) (by omega)]
    by_cases h2 : 1 ≤ (st.length : Int) ∧ (st.length : Int) ≤ 5
    · rw [if_pos (tv_true h2)]
      by_cases h3 : Rising st 1 9
      · rw [if_pos (tv_true h3), Option.bind_some]
        congr 1
        exact tv_congr ⟨fun h => ⟨h1.1, h1.2, by omega, by omega, h3, h⟩, fun h => h.br⟩
      · rw [if_neg (by rw [tv_iff]; exact h3), tv_false (fun h => h3 h.st)]
    · rw [if_neg (by rw [tv_iff]; exact h2), tv_false (fun h => h2 ⟨by have := h.s1; omega, by have := h.s5; omega⟩)]
  · rw [if_neg (by rw [tv_iff]; exact h1), tv_false (fun h => h1 ⟨h.n1, h.n60⟩)]
theorem clGood_f (n : Int) (st br : List Int) (hs : st.length ≤ 140737488355328) (hb : br.length ≤ 140737488355328) {k : Nat} (hk : st.length < k) (hk2 : br.length < k) :
    spec_clGood.f k n st br = some (tv (Good n st br)) := by
  unfold spec_clGood.f
  simp only [l1In_f, Option.bind_some, l1Rising_f st 1 9 hs hk]
  by_cases h1 : 1 ≤ n ∧ n ≤ 60
  · rw [if_pos (tv_true h1), l1Rising_f br 1 _ hb hk2, w64 (by omega) (by omega)]
    by_cases h2 : 1 ≤ (st.length : Int) ∧ (st.length : Int) ≤ 5
    · rw [if_pos (tv_true h2)]
      by_cases h3 : Rising st 1 9
      · rw [if_pos (tv_true h3), Option.bind_some]
        congr 1
        exact tv_congr ⟨fun h => ⟨h1.1, h1.2, by omega, by omega, h3, h⟩, fun h => h.br⟩
      · rw [if_neg (by rw [tv_iff]; exact h3), tv_false (fun h => h3 h.st)]
    · rw [if_neg (by rw [tv_iff]; exact h2), tv_false (fun h => h2 ⟨by have := h.s1; omega, by have := h.s5; omega⟩)]
  · rw [if_neg (by rw [tv_iff]; exact h1), tv_false (fun h => h1 ⟨h.n1, h.n60⟩)]
/-- Rising numbers from 1 on are no more than the bound tells. -/
theorem Rising.length_le {l : List Int} {hi : Int} (h : Rising l 1 hi) : (l.length : Int) ≤ max 0 hi := by
  have key : ∀ (l : List Int) (lo : Int), (∀ x ∈ l, lo ≤ x ∧ x ≤ hi) → l.Pairwise (· < ·) → (l.length : Int) ≤ max 0 (hi - lo + 1) := by
    intro l
    induction l with
    | nil => intro lo _ _; simp; omega
    | cons a t ih =>
      intro lo hb hp
      have ha := hb a (by simp)
      have h2 := ih (a + 1) (fun x hx => ⟨by have := (List.pairwise_cons.1 hp).1 x hx; omega, (hb x (by simp [hx])).2⟩) (List.pairwise_cons.1 hp).2
      simp only [List.length_cons]
      omega
  have := key l 1 h.1 h.2
  omega
theorem Good.br_len {n : Int} {st br : List Int} (h : Good n st br) : br.length ≤ 60 := by
  have := h.br.length_le
  have := h.n60
  omega

/-- Where a number is first, from place i on; -1 for none. -/
def ixF (x : Int) : List Int → Int → Int
  | [], _ => -1
  | a :: t, i => if x = a then i else ixF x t (i + 1)
theorem ixF_nonneg (x : Int) : ∀ (l : List Int) (i : Int), 0 ≤ i → (0 ≤ ixF x l i ↔ x ∈ l)
  | [], i, _ => by simp [ixF]
  | a :: t, i, h => by
    unfold ixF
    by_cases h1 : x = a
    · rw [if_pos h1]; simp [h1, h]
    · rw [if_neg h1, ixF_nonneg x t (i + 1) (by omega)]; simp [h1]
theorem Index_f' (l : List Int) (x : Int) (hl : l.length ≤ 140737488355328) {k : Nat} (hk : l.length < k) : slices_Index_int_int.f k l x = some (ixF x l 0) := by
  have h := scan (n := l.length) (fun k j => slices_Index_int_int.l0 k l x (l.length : Int) (j : Int)) (fun j => ixF x (l.drop j) j) (fun k => by
      simp only [slices_Index_int_int.l0]
      rw [if_neg (by omega), drop_all]; rfl) (fun k j hj ih => by
      simp only [slices_Index_int_int.l0]
      rw [if_pos (by omega), if_pos (by omega), if_pos (by omega), wnat hj (by omega), ih, rd_lt hj, drop_cons hj, ixF]
      split <;> rfl) 0 k (by omega) (by omega)
  exact h
theorem Index_f (l : List Int) (x : Int) (hl : l.length ≤ 140737488355328) {k : Nat} (hk : l.length < k) : ∃ i : Int, slices_Index_int_int.f k l x = some i ∧ (0 ≤ i ↔ x ∈ l) :=
  ⟨_, Index_f' l x hl hk, ixF_nonneg x l 0 (by omega)⟩
theorem Contains_f (l : List Int) (x : Int) (hl : l.length ≤ 140737488355328) {k : Nat} (hk : l.length < k) : slices_Contains_int_int.f k l x = some (tv (x ∈ l)) := by
  obtain ⟨i, h1, h2⟩ := Index_f l x hl hk
  unfold slices_Contains_int_int.f
  rw [h1, Option.bind_some, tv_decide]
  congr 1
  exact tv_congr h2
theorem isBroken_f (n : Int) (st br : List Int) (x : Int) (hl : br.length ≤ 140737488355328) {k : Nat} (hk : br.length < k) : impl_Stairs_isBroken.f k n st br x = some (tv (x ∈ br)) := by
  unfold impl_Stairs_isBroken.f
  rw [Contains_f br x hl hk]; rfl
theorem l1Has_f (l : List Int) (x : Int) (hl : l.length ≤ 140737488355328) {k : Nat} (hk : l.length < k) : spec_l1Has.f k l x = some (tv (x ∈ l)) := by
  have h := scan (n := l.length) (fun k j => spec_l1Has.l0 k x l (l.length : Int) (j : Int)) (fun j => tv (x ∈ l.drop j)) (fun k => by
      simp only [spec_l1Has.l0]
      rw [if_neg (by omega), tv_false (by simp)]) (fun k j hj ih => by
      simp only [spec_l1Has.l0]
      rw [if_pos (by omega), if_pos (by omega), if_pos (by omega), wnat hj (by omega), ih, rd_lt hj, drop_cons hj]
      by_cases h1 : l[j] = x
      · rw [if_pos h1, tv_true (by rw [h1]; exact List.mem_cons_self)]
      · rw [if_neg h1]
        congr 1
        exact tv_congr (by rw [List.mem_cons]; exact ⟨.inr, fun h => h.elim (fun e => absurd e.symm h1) id⟩)) 0 k (by omega) (by omega)
  unfold spec_l1Has.f
  simpa using h
theorem l1Own_f (l : List Int) (hl : l.length < 17592186044416) : spec_l1Own.f l = some l := by
  unfold spec_l1Own.f
  simp [hl]
theorem Clone_f (l : List Int) (hl : l.length < 17592186044416) : slices_Clone_int_int.f l = some l := by
  unfold slices_Clone_int_int.f
  rw [if_pos hl]
theorem copied_f (n : Int) (st br : List Int) (hs : st.length < 17592186044416) (hb : br.length < 17592186044416) : impl_Stairs_copied.f n st br = some (n, st, br) := by
  unfold impl_Stairs_copied.f
  simp [Clone_f, hs, hb]
end Go.Proofs.Yteiamophnfkgmaa.X
