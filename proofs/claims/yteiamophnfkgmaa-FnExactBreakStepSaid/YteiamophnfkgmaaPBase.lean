/- Plain lemmas on truth values, 64-bit sums, lists and loops that the proofs of this seat share. -/
import Derived.Test.YteiamophnfkgmaaWWords
namespace Go.Proofs.Yteiamophnfkgmaa.X
open Go.RowKit Go.Proofs.YteiamophnfkgmaaW.PrintWords

noncomputable def tv (P : Prop) : Bool := @decide P (Classical.propDecidable P)
theorem tv_iff {P : Prop} : tv P = true ↔ P := by unfold tv; exact @decide_eq_true_iff P (Classical.propDecidable P)
theorem tv_congr {P Q : Prop} (h : P ↔ Q) : tv P = tv Q := by
  rw [Bool.eq_iff_iff, tv_iff, tv_iff]; exact h
theorem tv_true {P : Prop} (h : P) : tv P = true := tv_iff.2 h
theorem tv_false {P : Prop} (h : ¬ P) : tv P = false := by
  rw [← Bool.not_eq_true, tv_iff]; exact h
theorem tv_decide {P : Prop} [Decidable P] : decide P = tv P := by
  rw [Bool.eq_iff_iff, tv_iff, decide_eq_true_iff]
theorem tv_eq {P : Prop} {b : Bool} (h : b = true ↔ P) : tv P = b := by
  rw [Bool.eq_iff_iff, tv_iff]; exact h.symm
theorem w64 {x : Int} (h0 : -9223372036854775808 ≤ x) (h1 : x ≤ 9223372036854775807) : wrap64 x = x := by
  unfold wrap64; omega
theorem wnat {j n : Nat} (h : j < n) (hn : n ≤ 9223372036854775807) : wrap64 ((j : Int) + 1) = ((j + 1 : Nat) : Int) := by
  rw [w64 (by omega) (by omega)]; omega
theorem rd_nat (xs : List Int) (j : Nat) : rd xs (j : Int) = xs.getD j 0 := by unfold rd; rw [Int.toNat_natCast]
theorem rd_lt {xs : List Int} {j : Nat} (h : j < xs.length) : rd xs (j : Int) = xs[j] := by rw [rd_nat, List.getD_eq_getElem?_getD, List.getElem?_eq_getElem h]; rfl
/-- A loop from place j to n: what it comes to, place by place. -/
theorem scan {ρ : Type} {n : Nat} (l : Nat → Nat → Option ρ) (G : Nat → ρ) (h0 : ∀ k, l (k + 1) n = some (G n))
    (hs : ∀ k j, j < n → l k (j + 1) = some (G (j + 1)) → l (k + 1) j = some (G j)) : ∀ j k, j ≤ n → n - j < k → l k j = some (G j) := by
  have key : ∀ d j k, j + d = n → d < k → l k j = some (G j) := by
    intro d
    induction d with
    | zero =>
      intro j k h hk
      obtain ⟨k, rfl⟩ : ∃ m, k = m + 1 := ⟨k - 1, by omega⟩
      obtain rfl : j = n := by omega
      exact h0 k
    | succ d ih =>
      intro j k h hk
      obtain ⟨k, rfl⟩ : ∃ m, k = m + 1 := ⟨k - 1, by omega⟩
      exact hs k j (by omega) (ih (j + 1) k (by omega) (by omega))
  intro j k hj hk
  exact key (n - j) j k (by omega) hk
/-- The same where the rounds need a number of rounds themselves: at least R. -/
theorem scanR {ρ : Type} {n R : Nat} (l : Nat → Nat → Option ρ) (G : Nat → ρ) (h0 : ∀ k, R ≤ k → l (k + 1) n = some (G n))
    (hs : ∀ k j, R ≤ k → j < n → l k (j + 1) = some (G (j + 1)) → l (k + 1) j = some (G j)) : ∀ j k, j ≤ n → n - j + R < k → l k j = some (G j) := by
  have key : ∀ d j k, j + d = n → d + R < k → l k j = some (G j) := by
    intro d
    induction d with
    | zero =>
      intro j k h hk
      obtain ⟨k, rfl⟩ : ∃ m, k = m + 1 := ⟨k - 1, by omega⟩
      obtain rfl : j = n := by omega
      exact h0 k (by omega)
    | succ d ih =>
      intro j k h hk
      obtain ⟨k, rfl⟩ : ∃ m, k = m + 1 := ⟨k - 1, by omega⟩
      exact hs k j (by omega) (by omega) (ih (j + 1) k (by omega) (by omega))
  intro j k hj hk
  exact key (n - j) j k (by omega) hk
theorem drop_cons {α : Type} {l : List α} {j : Nat} (h : j < l.length) : l.drop j = l[j] :: l.drop (j + 1) := List.drop_eq_getElem_cons h
theorem drop_all {α : Type} (l : List α) : l.drop l.length = [] := List.drop_length
end Go.Proofs.Yteiamophnfkgmaa.X
