/- What the laws' own helpers over slices of numbers come to: sizes, copies, comparisons, marks and what is held, for lists of at most 1048576 numbers. -/
import Derived.Test.YteiamophnfkgmaaXxF0
import Derived.Test.YteiamophnfkgmaaPBase
namespace Go.Proofs.Yteiamophnfkgmaa.X
open Go.RowKit Go.Proofs.YteiamophnfkgmaaW.PrintWords

theorem szIntS_f (l : List Int) (a : Int) (h0 : 0 ≤ a) (h1 : a ≤ 1048576) (hl : l.length ≤ 9223372036854775807) :
    laws_szIntS.f l a = some (if a - l.length < 0 then -1 else a - l.length) := by
  unfold laws_szIntS.f
  rw [w64 (by omega) (by omega)]
  split <;> rfl
theorem toIntS_f (l : List Int) (hl : l.length ≤ 1048576) {k : Nat} (hk : l.length < k) : laws_toIntS.f k l = some l := by
  have h := scan (n := l.length) (fun k j => laws_toIntS.l0 k l (l.take j ++ List.replicate (l.length - j) 0) (j : Int)) (fun _ => l) (fun k => by
      simp only [laws_toIntS.l0]
      rw [if_neg (by omega), List.take_length, Nat.sub_self]; simp) (fun k j hj ih => by
      simp only [laws_toIntS.l0]
      have hlen : (l.take j ++ List.replicate (l.length - j) (0 : Int)).length = l.length := by simp; omega
      rw [if_pos (by omega), if_pos (by omega), if_pos (by rw [hlen]; omega), wnat hj (by omega), Int.toNat_natCast, rd_lt hj]
      have he : (l.take j ++ List.replicate (l.length - j) (0 : Int)).set j l[j] = l.take (j + 1) ++ List.replicate (l.length - (j + 1)) 0 := by
        have e1 : l.length - j = (l.length - (j + 1)) + 1 := by omega
        rw [List.set_append_right _ _ (by simp; omega), List.take_succ_eq_append_getElem hj, e1, List.replicate_succ]
        have : j - (l.take j).length = 0 := by simp; omega
        rw [this, List.set_cons_zero, List.append_assoc]; rfl
      rw [he]; exact ih) 0 k (by omega) (by omega)
  unfold laws_toIntS.f
  rw [if_pos (by omega), if_pos (by rw [Int.toNat_natCast]; omega), Int.toNat_natCast]
  simpa using h
theorem eqIntS_same (l : List Int) (hl : l.length ≤ 140737488355328) {k : Nat} (hk : l.length < k) : laws_eqIntS.f k l l = some true := by
  have h := scan (n := l.length) (fun k j => laws_eqIntS.l0 k l l (j : Int)) (fun _ => true) (fun k => by
      simp only [laws_eqIntS.l0]
      rw [if_neg (by omega)]) (fun k j hj ih => by
      simp only [laws_eqIntS.l0]
      rw [if_pos (by omega), if_pos (by omega), if_pos (by omega), if_pos trivial, wnat hj (by omega)]; exact ih) 0 k (by omega) (by omega)
  unfold laws_eqIntS.f
  rw [if_pos rfl]; exact h
/-- The marks from a on. -/
def marks (a : Int) (n : Nat) : List Int := (List.range n).map fun (i : Nat) => a + (i : Int)
theorem marks_length (a : Int) (n : Nat) : (marks a n).length = n := by simp [marks]
theorem marks_get {a : Int} {n j : Nat} (h : j < n) : (marks a n)[j]'(by rw [marks_length]; exact h) = a + j := by simp [marks]
theorem marks_step (a : Int) (l : List Int) (j : Nat) (hj : j < l.length) : (marks a j ++ l.drop j).set j (a + j) = marks a (j + 1) ++ l.drop (j + 1) := by
  rw [List.set_append_right _ _ (by rw [marks_length]; omega), marks_length, Nat.sub_self, drop_cons hj, List.set_cons_zero]
  simp [marks, List.range_succ]
theorem markIntS_f (l : List Int) (a : Int) (h0 : 0 ≤ a) (h1 : a ≤ 9000000000000000000) (hl : l.length ≤ 140737488355328) {k : Nat} (hk : l.length < k) :
    laws_markIntS.f k l a = some (a + l.length, marks a l.length) := by
  have h := scan (n := l.length) (fun k j => laws_markIntS.l0 k (marks a j ++ l.drop j) (a + j) (j : Int)) (fun _ => (a + l.length, marks a l.length)) (fun k => by
      simp only [laws_markIntS.l0]
      rw [if_neg (by simp [marks_length]), drop_all, List.append_nil]) (fun k j hj ih => by
      simp only [laws_markIntS.l0]
      have hlen : (marks a j ++ l.drop j).length = l.length := by simp [marks_length]; omega
      rw [if_pos (by rw [hlen]; omega), if_pos (by omega), wnat hj (by omega), Int.toNat_natCast, marks_step a l j hj, w64 (by omega) (by omega)]
      have e : a + (j : Int) + 1 = a + ((j + 1 : Nat) : Int) := by omega
      rw [e]; exact ih) 0 k (by omega) (by omega)
  unfold laws_markIntS.f
  simpa [marks] using h
theorem heldIntS_f (a : Int) (n : Nat) (h0 : 0 ≤ a) (h1 : a ≤ 9000000000000000000) (hl : n ≤ 140737488355328) {k : Nat} (hk : n < k) :
    laws_heldIntS.f k (marks a n) a = some (a + n) := by
  have h := scan (n := n) (fun k j => laws_heldIntS.l0 k (marks a n) (a + j) (j : Int)) (fun _ => a + n) (fun k => by
      simp only [laws_heldIntS.l0]
      rw [if_neg (by rw [marks_length]; omega)]) (fun k j hj ih => by
      simp only [laws_heldIntS.l0]
      rw [if_pos (by rw [marks_length]; omega), if_pos (by omega), rd_lt (show j < (marks a n).length by rw [marks_length]; exact hj), if_pos (marks_get hj), wnat hj (by omega), w64 (by omega) (by omega)]
      have e : a + (j : Int) + 1 = a + ((j + 1 : Nat) : Int) := by omega
      rw [e]; exact ih) 0 k (by omega) (by omega)
  unfold laws_heldIntS.f
  simpa using h
end Go.Proofs.Yteiamophnfkgmaa.X
