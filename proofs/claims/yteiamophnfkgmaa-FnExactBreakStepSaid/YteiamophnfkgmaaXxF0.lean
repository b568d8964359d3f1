-- Written by a program of this session (wip/xprint.py over the kit's print).
import Derived.Test.YteiamophnfkgmaaXx0
namespace Go.Proofs.Yteiamophnfkgmaa.X
open Go.RowKit Go.Proofs.YteiamophnfkgmaaW.PrintWords Go.Proofs.YteiamophnfkgmaaW.PrintLast Go.Proofs.YteiamophnfkgmaaW.PrintMore
attribute [local go_sem] max2_int min2_int max_two min_two max_three min_three max_four min_four   -- for this text's walks alone
set_option linter.unusedVariables false
set_option linter.unusedSimpArgs false

/-! ### laws_szIntS: function 45 -/
def laws_szIntS.f (l0 : List Int) (a1 : Int) : Option (Int) := if (wrap64 (a1 - (l0.length : Int))) < 0 then (some (-1)) else (some (wrap64 (a1 - (l0.length : Int))))

/-! ### laws_szStairs: function 6 -/
def laws_szStairs.f (a0_0 : Int) (l0_1 : List Int) (l0_2 : List Int) (a1 : Int) : Option (Int) := (laws_szIntS.f l0_1 a1).bind fun t102 => (if t102 < 0 then (some (-1)) else ((laws_szIntS.f l0_2 t102).bind fun t103 => (if t103 < 0 then (some (-1)) else (some t103))))

/-! ### spec_l1In: function 47 -/
def spec_l1In.f (a0 : Int) (a1 : Int) (a2 : Int) : Option (Bool) := if a0 ≥ a1 then (some (decide (a0 ≤ a2))) else (some false)

/-! ### spec_l1Rising: function 77 -/
def spec_l1Rising.l0 : Nat → List Int → Int → Int → List Int → Int → Int → Option (Bool)
  | 0, _, _, _, _, _, _ => none
  | k + 1, x0, x1, x2, x9, x10, x11 => if x11 < x10 then (if 0 ≤ x11 then (if x11 < (x9.length : Int) then ((spec_l1In.f (rd x9 x11) x1 x2).bind fun t105 => (if t105 = true then (if x11 > 0 then (if 0 ≤ (wrap64 (x11 - 1)) then (if (wrap64 (x11 - 1)) < (x0.length : Int) then (if (rd x0 (wrap64 (x11 - 1))) ≥ (rd x9 x11) then (some false) else (spec_l1Rising.l0 k x0 x1 x2 x9 x10 (wrap64 (x11 + 1)))) else (none)) else (none)) else (spec_l1Rising.l0 k x0 x1 x2 x9 x10 (wrap64 (x11 + 1)))) else (some false))) else (none)) else (none)) else (some true)
def spec_l1Rising.f (k : Nat) (l0 : List Int) (a1 : Int) (a2 : Int) : Option (Bool) := spec_l1Rising.l0 k l0 a1 a2 l0 (l0.length : Int) 0
theorem spec_l1Rising.mono_l : ∀ k, (∀ y0 y1 y2 y3 y4 y5, LeO (spec_l1Rising.l0 k y0 y1 y2 y3 y4 y5) (spec_l1Rising.l0 (k + 1) y0 y1 y2 y3 y4 y5))
  | 0 => fun _ _ _ _ _ _ r h => by simp [spec_l1Rising.l0] at h
  | k + 1 => by
    have ih0 := spec_l1Rising.mono_l k
    · intro y0 y1 y2 y3 y4 y5
      unfold spec_l1Rising.l0
      repeat' first
      | (with_reducible exact ih0 _ _ _ _ _ _)
      | (with_reducible exact LeO.refl _)
      | (with_reducible exact LeO.none _)
      | (with_reducible refine LeO.ite ?_ ?_)
      | (with_reducible refine LeO.bind ?_ (fun _ => ?_))
      | exact ih0 _ _ _ _ _ _
      | exact LeO.none _
      | refine LeO.ite ?_ ?_
      | refine LeO.bind ?_ (fun _ => ?_)
theorem spec_l1Rising.mono : ∀ a0 a1 a2 k, LeO (spec_l1Rising.f k a0 a1 a2) (spec_l1Rising.f (k + 1) a0 a1 a2) := by
  intro a0 a1 a2 k
  have ih0 := spec_l1Rising.mono_l k
  unfold spec_l1Rising.f
  repeat' first
      | (with_reducible exact ih0 _ _ _ _ _ _)
      | (with_reducible exact LeO.refl _)
      | (with_reducible exact LeO.none _)
      | (with_reducible refine LeO.ite ?_ ?_)
      | (with_reducible refine LeO.bind ?_ (fun _ => ?_))
      | exact ih0 _ _ _ _ _ _
      | exact LeO.none _
      | refine LeO.ite ?_ ?_
      | refine LeO.bind ?_ (fun _ => ?_)

/-! ### spec_clGood: function 46 -/
def spec_clGood.f (k : Nat) (a0_0 : Int) (l0_1 : List Int) (l0_2 : List Int) : Option (Bool) := (spec_l1In.f a0_0 1 60).bind fun t108 => (if t108 = true then ((spec_l1In.f (l0_1.length : Int) 1 5).bind fun t109 => (if t109 = true then ((spec_l1Rising.f k l0_1 1 9).bind fun t110 => (if t110 = true then ((spec_l1Rising.f k l0_2 1 (wrap64 (a0_0 - 1))).bind fun t111 => (some t111)) else (some false))) else (some false))) else (some false))
theorem spec_clGood.mono : ∀ a0 a1 a2 k, LeO (spec_clGood.f k a0 a1 a2) (spec_clGood.f (k + 1) a0 a1 a2) := by
  intro a0 a1 a2 k
  unfold spec_clGood.f
  repeat' first
      | (with_reducible exact spec_l1Rising.mono _ _ _ _)
      | (with_reducible exact LeO.refl _)
      | (with_reducible exact LeO.none _)
      | (with_reducible refine LeO.ite ?_ ?_)
      | (with_reducible refine LeO.bind ?_ (fun _ => ?_))
      | exact spec_l1Rising.mono _ _ _ _
      | exact LeO.none _
      | refine LeO.ite ?_ ?_
      | refine LeO.bind ?_ (fun _ => ?_)

/-! ### spec_l1Has: function 48 -/
def spec_l1Has.l0 : Nat → Int → List Int → Int → Int → Option (Bool)
  | 0, _, _, _, _ => none
  | k + 1, x1, x7, x8, x9 => if x9 < x8 then (if 0 ≤ x9 then (if x9 < (x7.length : Int) then (if (rd x7 x9) = x1 then (some true) else (spec_l1Has.l0 k x1 x7 x8 (wrap64 (x9 + 1)))) else (none)) else (none)) else (some false)
def spec_l1Has.f (k : Nat) (l0 : List Int) (a1 : Int) : Option (Bool) := spec_l1Has.l0 k a1 l0 (l0.length : Int) 0
theorem spec_l1Has.mono_l : ∀ k, (∀ y0 y1 y2 y3, LeO (spec_l1Has.l0 k y0 y1 y2 y3) (spec_l1Has.l0 (k + 1) y0 y1 y2 y3))
  | 0 => fun _ _ _ _ r h => by simp [spec_l1Has.l0] at h
  | k + 1 => by
    have ih0 := spec_l1Has.mono_l k
    · intro y0 y1 y2 y3
      unfold spec_l1Has.l0
      repeat' first
      | (with_reducible exact ih0 _ _ _ _)
      | (with_reducible exact LeO.refl _)
      | (with_reducible exact LeO.none _)
      | (with_reducible refine LeO.ite ?_ ?_)
      | (with_reducible refine LeO.bind ?_ (fun _ => ?_))
      | exact ih0 _ _ _ _
      | exact LeO.none _
      | refine LeO.ite ?_ ?_
      | refine LeO.bind ?_ (fun _ => ?_)
theorem spec_l1Has.mono : ∀ a0 a1 k, LeO (spec_l1Has.f k a0 a1) (spec_l1Has.f (k + 1) a0 a1) := by
  intro a0 a1 k
  have ih0 := spec_l1Has.mono_l k
  unfold spec_l1Has.f
  repeat' first
      | (with_reducible exact ih0 _ _ _ _)
      | (with_reducible exact LeO.refl _)
      | (with_reducible exact LeO.none _)
      | (with_reducible refine LeO.ite ?_ ?_)
      | (with_reducible refine LeO.bind ?_ (fun _ => ?_))
      | exact ih0 _ _ _ _
      | exact LeO.none _
      | refine LeO.ite ?_ ?_
      | refine LeO.bind ?_ (fun _ => ?_)

/-! ### spec_l1Own: function 78 -/
def spec_l1Own.f (l0 : List Int) : Option (List Int) := (some (([] : List Int) : List Int)).bind fun y113 => (if y113.length + l0.length < 17592186044416 then (some (y113 ++ l0)) else (none))

/-! ### spec_l1Put: function 79 -/
def spec_l1Put.l0 : Nat → List Int → Int → Int → Option (List Int)
  | 0, _, _, _ => none
  | k + 1, x0, x1, x5 => if x5 < (x0.length : Int) then (if 0 ≤ x5 then (if (rd x0 x5) < x1 then (spec_l1Put.l0 k x0 x1 (wrap64 (x5 + 1))) else (if (rd x0 x5) = x1 then (some x0) else ((some (([] : List Int) : List Int)).bind fun y121 => (if x5 ≤ (x0.length : Int) then ((some (x0.take (x5 : Int).toNat : List Int)).bind fun y124 => (if y121.length + y124.length < 17592186044416 then ((some (y121 ++ y124 : List Int)).bind fun y128 => (if y128.length < 17592186044416 then ((some (y128 ++ [x1] : List Int)).bind fun y131 => ((some (x0.drop (x5 : Int).toNat : List Int)).bind fun y134 => (if y131.length + y134.length < 17592186044416 then (some (y131 ++ y134)) else (none)))) else (none))) else (none))) else (none))))) else (none)) else ((some (([] : List Int) : List Int)).bind fun y141 => (if 0 ≤ x5 then (if x5 ≤ (x0.length : Int) then ((some (x0.take (x5 : Int).toNat : List Int)).bind fun y144 => (if y141.length + y144.length < 17592186044416 then ((some (y141 ++ y144 : List Int)).bind fun y148 => (if y148.length < 17592186044416 then ((some (y148 ++ [x1] : List Int)).bind fun y151 => ((some (x0.drop (x5 : Int).toNat : List Int)).bind fun y154 => (if y151.length + y154.length < 17592186044416 then (some (y151 ++ y154)) else (none)))) else (none))) else (none))) else (none)) else (none)))
def spec_l1Put.f (k : Nat) (l0 : List Int) (a1 : Int) : Option (List Int) := spec_l1Put.l0 k l0 a1 0
theorem spec_l1Put.mono_l : ∀ k, (∀ y0 y1 y2, LeO (spec_l1Put.l0 k y0 y1 y2) (spec_l1Put.l0 (k + 1) y0 y1 y2))
  | 0 => fun _ _ _ r h => by simp [spec_l1Put.l0] at h
  | k + 1 => by
    have ih0 := spec_l1Put.mono_l k
    · intro y0 y1 y2
      unfold spec_l1Put.l0
      repeat' first
      | (with_reducible exact ih0 _ _ _)
      | (with_reducible exact LeO.refl _)
      | (with_reducible exact LeO.none _)
      | (with_reducible refine LeO.ite ?_ ?_)
      | (with_reducible refine LeO.bind ?_ (fun _ => ?_))
      | exact ih0 _ _ _
      | exact LeO.none _
      | refine LeO.ite ?_ ?_
      | refine LeO.bind ?_ (fun _ => ?_)
theorem spec_l1Put.mono : ∀ a0 a1 k, LeO (spec_l1Put.f k a0 a1) (spec_l1Put.f (k + 1) a0 a1) := by
  intro a0 a1 k
  have ih0 := spec_l1Put.mono_l k
  unfold spec_l1Put.f
  repeat' first
      | (with_reducible exact ih0 _ _ _)
      | (with_reducible exact LeO.refl _)
      | (with_reducible exact LeO.none _)
      | (with_reducible refine LeO.ite ?_ ?_)
      | (with_reducible refine LeO.bind ?_ (fun _ => ?_))
      | exact ih0 _ _ _
      | exact LeO.none _
      | refine LeO.ite ?_ ?_
      | refine LeO.bind ?_ (fun _ => ?_)

/-! ### spec_clBreak: function 49 -/
def spec_clBreak.f (k : Nat) (a0_0 : Int) (l0_1 : List Int) (l0_2 : List Int) (a1 : Int) : Option (Int × List Int × List Int) := (spec_l1Own.f l0_1).bind fun t163 => ((spec_l1Put.f k l0_2 a1).bind fun t166 => (some (a0_0, t163, t166)))
theorem spec_clBreak.mono : ∀ a0 a1 a2 a3 k, LeO (spec_clBreak.f k a0 a1 a2 a3) (spec_clBreak.f (k + 1) a0 a1 a2 a3) := by
  intro a0 a1 a2 a3 k
  unfold spec_clBreak.f
  repeat' first
      | (with_reducible exact spec_l1Put.mono _ _ _)
      | (with_reducible exact LeO.refl _)
      | (with_reducible exact LeO.none _)
      | (with_reducible refine LeO.ite ?_ ?_)
      | (with_reducible refine LeO.bind ?_ (fun _ => ?_))
      | exact spec_l1Put.mono _ _ _
      | exact LeO.none _
      | refine LeO.ite ?_ ?_
      | refine LeO.bind ?_ (fun _ => ?_)

/-! ### spec_BreakStep: function 7 -/
def spec_BreakStep.f (k : Nat) (a0_0 : Int) (l0_1 : List Int) (l0_2 : List Int) (a1 : Int) : Option (Int × List Int × List Int × Bool) := (spec_clGood.f k a0_0 l0_1 l0_2).bind fun t171 => (if t171 = true then ((spec_l1In.f a1 1 (wrap64 (a0_0 - 1))).bind fun t172 => (if t172 = true then ((spec_l1Has.f k l0_2 a1).bind fun t173 => (if t173 = true then (some (0, ([] : List Int), ([] : List Int), false)) else ((spec_clBreak.f k a0_0 l0_1 l0_2 a1).bind fun bt174 => (some (bt174.1, bt174.2.1, bt174.2.2, true))))) else (some (0, ([] : List Int), ([] : List Int), false)))) else (some (0, ([] : List Int), ([] : List Int), false)))
theorem spec_BreakStep.mono : ∀ a0 a1 a2 a3 k, LeO (spec_BreakStep.f k a0 a1 a2 a3) (spec_BreakStep.f (k + 1) a0 a1 a2 a3) := by
  intro a0 a1 a2 a3 k
  unfold spec_BreakStep.f
  repeat' first
      | (with_reducible exact spec_clBreak.mono _ _ _ _ _)
      | (with_reducible exact spec_clGood.mono _ _ _ _)
      | (with_reducible exact spec_l1Has.mono _ _ _)
      | (with_reducible exact LeO.refl _)
      | (with_reducible exact LeO.none _)
      | (with_reducible refine LeO.ite ?_ ?_)
      | (with_reducible refine LeO.bind ?_ (fun _ => ?_))
      | exact spec_clBreak.mono _ _ _ _ _
      | exact spec_clGood.mono _ _ _ _
      | exact spec_l1Has.mono _ _ _
      | exact LeO.none _
      | refine LeO.ite ?_ ?_
      | refine LeO.bind ?_ (fun _ => ?_)

/-! ### laws_toIntS: function 50 -/
def laws_toIntS.l0 : Nat → List Int → List Int → Int → Option (List Int)
  | 0, _, _, _ => none
  | k + 1, x0, x3, x4 => if x4 < (x0.length : Int) then (if 0 ≤ x4 then (if x4 < (x3.length : Int) then (laws_toIntS.l0 k x0 (x3.set (x4 : Int).toNat (rd x0 x4)) (wrap64 (x4 + 1))) else (none)) else (none)) else (some x3)
def laws_toIntS.f (k : Nat) (l0 : List Int) : Option (List Int) := if 0 ≤ (l0.length : Int) then (if ((l0.length : Int) : Int).toNat ≤ 35184372088832 then (laws_toIntS.l0 k l0 (List.replicate ((l0.length : Int) : Int).toNat 0) 0) else (none)) else (none)
theorem laws_toIntS.mono_l : ∀ k, (∀ y0 y1 y2, LeO (laws_toIntS.l0 k y0 y1 y2) (laws_toIntS.l0 (k + 1) y0 y1 y2))
  | 0 => fun _ _ _ r h => by simp [laws_toIntS.l0] at h
  | k + 1 => by
    have ih0 := laws_toIntS.mono_l k
    · intro y0 y1 y2
      unfold laws_toIntS.l0
      repeat' first
      | (with_reducible exact ih0 _ _ _)
      | (with_reducible exact LeO.refl _)
      | (with_reducible exact LeO.none _)
      | (with_reducible refine LeO.ite ?_ ?_)
      | (with_reducible refine LeO.bind ?_ (fun _ => ?_))
      | exact ih0 _ _ _
      | exact LeO.none _
      | refine LeO.ite ?_ ?_
      | refine LeO.bind ?_ (fun _ => ?_)
theorem laws_toIntS.mono : ∀ a0 k, LeO (laws_toIntS.f k a0) (laws_toIntS.f (k + 1) a0) := by
  intro a0 k
  have ih0 := laws_toIntS.mono_l k
  unfold laws_toIntS.f
  repeat' first
      | (with_reducible exact ih0 _ _ _)
      | (with_reducible exact LeO.refl _)
      | (with_reducible exact LeO.none _)
      | (with_reducible refine LeO.ite ?_ ?_)
      | (with_reducible refine LeO.bind ?_ (fun _ => ?_))
      | exact ih0 _ _ _
      | exact LeO.none _
      | refine LeO.ite ?_ ?_
      | refine LeO.bind ?_ (fun _ => ?_)

/-! ### laws_toStairs: function 8 -/
def laws_toStairs.f (k : Nat) (a0_0 : Int) (l0_1 : List Int) (l0_2 : List Int) : Option (Int × List Int × List Int) := (laws_toIntS.f k l0_1).bind fun t189 => ((laws_toIntS.f k l0_2).bind fun t192 => (some (a0_0, t189, t192)))
theorem laws_toStairs.mono : ∀ a0 a1 a2 k, LeO (laws_toStairs.f k a0 a1 a2) (laws_toStairs.f (k + 1) a0 a1 a2) := by
  intro a0 a1 a2 k
  unfold laws_toStairs.f
  repeat' first
      | (with_reducible exact laws_toIntS.mono _ _)
      | (with_reducible exact LeO.refl _)
      | (with_reducible exact LeO.none _)
      | (with_reducible refine LeO.ite ?_ ?_)
      | (with_reducible refine LeO.bind ?_ (fun _ => ?_))
      | exact laws_toIntS.mono _ _
      | exact LeO.none _
      | refine LeO.ite ?_ ?_
      | refine LeO.bind ?_ (fun _ => ?_)

/-! ### impl_within: function 52 -/
def impl_within.f (a0 : Int) (a1 : Int) (a2 : Int) : Option (Bool) := if a1 ≤ a0 then (some (decide (a0 ≤ a2))) else (some false)

/-! ### impl_rise: function 80 -/
def impl_rise.l0 : Nat → List Int → Int → Int → List Int → Int → Int → Option (Bool)
  | 0, _, _, _, _, _, _ => none
  | k + 1, x0, x1, x2, x9, x10, x11 => if x11 < x10 then (if 0 ≤ x11 then (if x11 < (x9.length : Int) then ((impl_within.f (rd x9 x11) x1 x2).bind fun t196 => (if t196 = true then (if x11 > 0 then (if 0 ≤ (wrap64 (x11 - 1)) then (if (wrap64 (x11 - 1)) < (x0.length : Int) then (if (rd x9 x11) ≤ (rd x0 (wrap64 (x11 - 1))) then (some false) else (impl_rise.l0 k x0 x1 x2 x9 x10 (wrap64 (x11 + 1)))) else (none)) else (none)) else (impl_rise.l0 k x0 x1 x2 x9 x10 (wrap64 (x11 + 1)))) else (some false))) else (none)) else (none)) else (some true)
def impl_rise.f (k : Nat) (l0 : List Int) (a1 : Int) (a2 : Int) : Option (Bool) := impl_rise.l0 k l0 a1 a2 l0 (l0.length : Int) 0
theorem impl_rise.mono_l : ∀ k, (∀ y0 y1 y2 y3 y4 y5, LeO (impl_rise.l0 k y0 y1 y2 y3 y4 y5) (impl_rise.l0 (k + 1) y0 y1 y2 y3 y4 y5))
  | 0 => fun _ _ _ _ _ _ r h => by simp [impl_rise.l0] at h
  | k + 1 => by
    have ih0 := impl_rise.mono_l k
    · intro y0 y1 y2 y3 y4 y5
      unfold impl_rise.l0
      repeat' first
      | (with_reducible exact ih0 _ _ _ _ _ _)
      | (with_reducible exact LeO.refl _)
      | (with_reducible exact LeO.none _)
      | (with_reducible refine LeO.ite ?_ ?_)
      | (with_reducible refine LeO.bind ?_ (fun _ => ?_))
      | exact ih0 _ _ _ _ _ _
      | exact LeO.none _
      | refine LeO.ite ?_ ?_
      | refine LeO.bind ?_ (fun _ => ?_)
theorem impl_rise.mono : ∀ a0 a1 a2 k, LeO (impl_rise.f k a0 a1 a2) (impl_rise.f (k + 1) a0 a1 a2) := by
  intro a0 a1 a2 k
  have ih0 := impl_rise.mono_l k
  unfold impl_rise.f
  repeat' first
      | (with_reducible exact ih0 _ _ _ _ _ _)
      | (with_reducible exact LeO.refl _)
      | (with_reducible exact LeO.none _)
      | (with_reducible refine LeO.ite ?_ ?_)
      | (with_reducible refine LeO.bind ?_ (fun _ => ?_))
      | exact ih0 _ _ _ _ _ _
      | exact LeO.none _
      | refine LeO.ite ?_ ?_
      | refine LeO.bind ?_ (fun _ => ?_)

/-! ### impl_AreStairs: function 51 -/
def impl_AreStairs.f (k : Nat) (a0_0 : Int) (l0_1 : List Int) (l0_2 : List Int) : Option (Bool) := (impl_within.f a0_0 1 60).bind fun t199 => (if t199 = true then ((impl_within.f (l0_1.length : Int) 1 5).bind fun t200 => (if t200 = true then ((impl_rise.f k l0_1 1 9).bind fun t201 => (if t201 = true then ((impl_rise.f k l0_2 1 (wrap64 (a0_0 - 1))).bind fun t202 => (some t202)) else (some false))) else (some false))) else (some false))
theorem impl_AreStairs.mono : ∀ a0 a1 a2 k, LeO (impl_AreStairs.f k a0 a1 a2) (impl_AreStairs.f (k + 1) a0 a1 a2) := by
  intro a0 a1 a2 k
  unfold impl_AreStairs.f
  repeat' first
      | (with_reducible exact impl_rise.mono _ _ _ _)
      | (with_reducible exact LeO.refl _)
      | (with_reducible exact LeO.none _)
      | (with_reducible refine LeO.ite ?_ ?_)
      | (with_reducible refine LeO.bind ?_ (fun _ => ?_))
      | exact impl_rise.mono _ _ _ _
      | exact LeO.none _
      | refine LeO.ite ?_ ?_
      | refine LeO.bind ?_ (fun _ => ?_)

/-! ### slices_Index_int_int: function 90 -/
def slices_Index_int_int.l0 : Nat → List Int → Int → Int → Int → Option (Int)
  | 0, _, _, _, _ => none
  | k + 1, x0, x1, x7, x8 => if x8 < x7 then (if 0 ≤ x8 then (if x8 < (x0.length : Int) then (if x1 = (rd x0 x8) then (some x8) else (slices_Index_int_int.l0 k x0 x1 x7 (wrap64 (x8 + 1)))) else (none)) else (none)) else (some (-1))
def slices_Index_int_int.f (k : Nat) (l0 : List Int) (a1 : Int) : Option (Int) := slices_Index_int_int.l0 k l0 a1 (l0.length : Int) 0
theorem slices_Index_int_int.mono_l : ∀ k, (∀ y0 y1 y2 y3, LeO (slices_Index_int_int.l0 k y0 y1 y2 y3) (slices_Index_int_int.l0 (k + 1) y0 y1 y2 y3))
  | 0 => fun _ _ _ _ r h => by simp [slices_Index_int_int.l0] at h
  | k + 1 => by
    have ih0 := slices_Index_int_int.mono_l k
    · intro y0 y1 y2 y3
      unfold slices_Index_int_int.l0
      repeat' first
      | (with_reducible exact ih0 _ _ _ _)
      | (with_reducible exact LeO.refl _)
      | (with_reducible exact LeO.none _)
      | (with_reducible refine LeO.ite ?_ ?_)
      | (with_reducible refine LeO.bind ?_ (fun _ => ?_))
      | exact ih0 _ _ _ _
      | exact LeO.none _
      | refine LeO.ite ?_ ?_
      | refine LeO.bind ?_ (fun _ => ?_)
theorem slices_Index_int_int.mono : ∀ a0 a1 k, LeO (slices_Index_int_int.f k a0 a1) (slices_Index_int_int.f (k + 1) a0 a1) := by
  intro a0 a1 k
  have ih0 := slices_Index_int_int.mono_l k
  unfold slices_Index_int_int.f
  repeat' first
      | (with_reducible exact ih0 _ _ _ _)
      | (with_reducible exact LeO.refl _)
      | (with_reducible exact LeO.none _)
      | (with_reducible refine LeO.ite ?_ ?_)
      | (with_reducible refine LeO.bind ?_ (fun _ => ?_))
      | exact ih0 _ _ _ _
      | exact LeO.none _
      | refine LeO.ite ?_ ?_
      | refine LeO.bind ?_ (fun _ => ?_)

/-! ### slices_Contains_int_int: function 81 -/
def slices_Contains_int_int.f (k : Nat) (l0 : List Int) (a1 : Int) : Option (Bool) := (slices_Index_int_int.f k l0 a1).bind fun t204 => (some (decide (t204 ≥ 0)))
theorem slices_Contains_int_int.mono : ∀ a0 a1 k, LeO (slices_Contains_int_int.f k a0 a1) (slices_Contains_int_int.f (k + 1) a0 a1) := by
  intro a0 a1 k
  unfold slices_Contains_int_int.f
  repeat' first
      | (with_reducible exact slices_Index_int_int.mono _ _ _)
      | (with_reducible exact LeO.refl _)
      | (with_reducible exact LeO.none _)
      | (with_reducible refine LeO.ite ?_ ?_)
      | (with_reducible refine LeO.bind ?_ (fun _ => ?_))
      | exact slices_Index_int_int.mono _ _ _
      | exact LeO.none _
      | refine LeO.ite ?_ ?_
      | refine LeO.bind ?_ (fun _ => ?_)

/-! ### impl_Stairs_isBroken: function 53 -/
def impl_Stairs_isBroken.f (k : Nat) (a0_0 : Int) (l0_1 : List Int) (l0_2 : List Int) (a1 : Int) : Option (Bool) := (slices_Contains_int_int.f k l0_2 a1).bind fun t206 => (some t206)
theorem impl_Stairs_isBroken.mono : ∀ a0 a1 a2 a3 k, LeO (impl_Stairs_isBroken.f k a0 a1 a2 a3) (impl_Stairs_isBroken.f (k + 1) a0 a1 a2 a3) := by
  intro a0 a1 a2 a3 k
  unfold impl_Stairs_isBroken.f
  repeat' first
      | (with_reducible exact slices_Contains_int_int.mono _ _ _)
      | (with_reducible exact LeO.refl _)
      | (with_reducible exact LeO.none _)
      | (with_reducible refine LeO.ite ?_ ?_)
      | (with_reducible refine LeO.bind ?_ (fun _ => ?_))
      | exact slices_Contains_int_int.mono _ _ _
      | exact LeO.none _
      | refine LeO.ite ?_ ?_
      | refine LeO.bind ?_ (fun _ => ?_)

def slices_Clone_int_int.f (l0 : List Int) : Option (List Int) := if l0.length < 17592186044416 then some l0 else none

/-! ### impl_Stairs_copied: function 54 -/
def impl_Stairs_copied.f (a0_0 : Int) (l0_1 : List Int) (l0_2 : List Int) : Option (Int × List Int × List Int) := (slices_Clone_int_int.f l0_1).bind fun t209 => ((slices_Clone_int_int.f l0_2).bind fun t212 => (some (a0_0, t209, t212)))

def slices_Sort_int_int.f (l0 : List Int) : Option (List Int) := if l0.length < 4611686018427387904 then some (l0.mergeSort fun x y => decide (x ≤ y)) else none

/-! ### impl_BreakStep: function 9 -/
def impl_BreakStep.j0 : Nat → Int → Bool → Int → List Int → List Int → Option (Int × List Int × List Int × Bool)
  | 0, _, _, _, _, _ => none
  | k + 1, x1, x22, x216000, x216001, x216002 => if x22 = true then (some (0, ([] : List Int), ([] : List Int), false)) else ((impl_Stairs_copied.f x216000 x216001 x216002).bind fun bt220 => (if bt220.2.2.length < 17592186044416 then ((slices_Sort_int_int.f (bt220.2.2 ++ [x1])).bind fun t231 => (some (bt220.1, bt220.2.1, t231, true))) else (none)))
def impl_BreakStep.f (k : Nat) (a0_0 : Int) (l0_1 : List Int) (l0_2 : List Int) (a1 : Int) : Option (Int × List Int × List Int × Bool) := (impl_AreStairs.f k a0_0 l0_1 l0_2).bind fun t217 => (if t217 = true then ((impl_within.f a1 1 (wrap64 (a0_0 - 1))).bind fun t218 => (if t218 = true then ((impl_Stairs_isBroken.f k a0_0 l0_1 l0_2 a1).bind fun t219 => (impl_BreakStep.j0 k a1 t219 a0_0 l0_1 l0_2)) else (impl_BreakStep.j0 k a1 true a0_0 l0_1 l0_2))) else (impl_BreakStep.j0 k a1 true a0_0 l0_1 l0_2))
theorem impl_BreakStep.mono_l : ∀ k, (∀ y0 y1 y2 y3 y4, LeO (impl_BreakStep.j0 k y0 y1 y2 y3 y4) (impl_BreakStep.j0 (k + 1) y0 y1 y2 y3 y4))
  | 0 => fun _ _ _ _ _ r h => by simp [impl_BreakStep.j0] at h
  | k + 1 => by
    have ih0 := impl_BreakStep.mono_l k
    · intro y0 y1 y2 y3 y4
      unfold impl_BreakStep.j0
      repeat' first
      | (with_reducible exact ih0 _ _ _ _ _)
      | (with_reducible exact impl_AreStairs.mono _ _ _ _)
      | (with_reducible exact impl_Stairs_isBroken.mono _ _ _ _ _)
      | (with_reducible exact LeO.refl _)
      | (with_reducible exact LeO.none _)
      | (with_reducible refine LeO.ite ?_ ?_)
      | (with_reducible refine LeO.bind ?_ (fun _ => ?_))
      | exact ih0 _ _ _ _ _
      | exact impl_AreStairs.mono _ _ _ _
      | exact impl_Stairs_isBroken.mono _ _ _ _ _
      | exact LeO.none _
      | refine LeO.ite ?_ ?_
      | refine LeO.bind ?_ (fun _ => ?_)
theorem impl_BreakStep.mono : ∀ a0 a1 a2 a3 k, LeO (impl_BreakStep.f k a0 a1 a2 a3) (impl_BreakStep.f (k + 1) a0 a1 a2 a3) := by
  intro a0 a1 a2 a3 k
  have ih0 := impl_BreakStep.mono_l k
  unfold impl_BreakStep.f
  repeat' first
      | (with_reducible exact ih0 _ _ _ _ _)
      | (with_reducible exact impl_AreStairs.mono _ _ _ _)
      | (with_reducible exact impl_Stairs_isBroken.mono _ _ _ _ _)
      | (with_reducible exact LeO.refl _)
      | (with_reducible exact LeO.none _)
      | (with_reducible refine LeO.ite ?_ ?_)
      | (with_reducible refine LeO.bind ?_ (fun _ => ?_))
      | exact ih0 _ _ _ _ _
      | exact impl_AreStairs.mono _ _ _ _
      | exact impl_Stairs_isBroken.mono _ _ _ _ _
      | exact LeO.none _
      | refine LeO.ite ?_ ?_
      | refine LeO.bind ?_ (fun _ => ?_)

/-! ### laws_eqIntS: function 56 -/
def laws_eqIntS.l0 : Nat → List Int → List Int → Int → Option (Bool)
  | 0, _, _, _ => none
  | k + 1, x0, x1, x5 => if x5 < (x0.length : Int) then (if 0 ≤ x5 then (if x5 < (x1.length : Int) then (if (rd x0 x5) = (rd x1 x5) then (laws_eqIntS.l0 k x0 x1 (wrap64 (x5 + 1))) else (some false)) else (none)) else (none)) else (some true)
def laws_eqIntS.f (k : Nat) (l0 : List Int) (l1 : List Int) : Option (Bool) := if (l0.length : Int) = (l1.length : Int) then (laws_eqIntS.l0 k l0 l1 0) else (some false)
theorem laws_eqIntS.mono_l : ∀ k, (∀ y0 y1 y2, LeO (laws_eqIntS.l0 k y0 y1 y2) (laws_eqIntS.l0 (k + 1) y0 y1 y2))
  | 0 => fun _ _ _ r h => by simp [laws_eqIntS.l0] at h
  | k + 1 => by
    have ih0 := laws_eqIntS.mono_l k
    · intro y0 y1 y2
      unfold laws_eqIntS.l0
      repeat' first
      | (with_reducible exact ih0 _ _ _)
      | (with_reducible exact LeO.refl _)
      | (with_reducible exact LeO.none _)
      | (with_reducible refine LeO.ite ?_ ?_)
      | (with_reducible refine LeO.bind ?_ (fun _ => ?_))
      | exact ih0 _ _ _
      | exact LeO.none _
      | refine LeO.ite ?_ ?_
      | refine LeO.bind ?_ (fun _ => ?_)
theorem laws_eqIntS.mono : ∀ a0 a1 k, LeO (laws_eqIntS.f k a0 a1) (laws_eqIntS.f (k + 1) a0 a1) := by
  intro a0 a1 k
  have ih0 := laws_eqIntS.mono_l k
  unfold laws_eqIntS.f
  repeat' first
      | (with_reducible exact ih0 _ _ _)
      | (with_reducible exact LeO.refl _)
      | (with_reducible exact LeO.none _)
      | (with_reducible refine LeO.ite ?_ ?_)
      | (with_reducible refine LeO.bind ?_ (fun _ => ?_))
      | exact ih0 _ _ _
      | exact LeO.none _
      | refine LeO.ite ?_ ?_
      | refine LeO.bind ?_ (fun _ => ?_)

/-! ### laws_eqStairs: function 10 -/
def laws_eqStairs.f (k : Nat) (a0_0 : Int) (l0_1 : List Int) (l0_2 : List Int) (a1_0 : Int) (l1_1 : List Int) (l1_2 : List Int) : Option (Bool) := if a0_0 = a1_0 then ((laws_eqIntS.f k l0_1 l1_1).bind fun t236 => (if t236 = true then ((laws_eqIntS.f k l0_2 l1_2).bind fun t237 => (if t237 = true then (some true) else (some false))) else (some false))) else (some false)
theorem laws_eqStairs.mono : ∀ a0 a1 a2 a3 a4 a5 k, LeO (laws_eqStairs.f k a0 a1 a2 a3 a4 a5) (laws_eqStairs.f (k + 1) a0 a1 a2 a3 a4 a5) := by
  intro a0 a1 a2 a3 a4 a5 k
  unfold laws_eqStairs.f
  repeat' first
      | (with_reducible exact laws_eqIntS.mono _ _ _)
      | (with_reducible exact LeO.refl _)
      | (with_reducible exact LeO.none _)
      | (with_reducible refine LeO.ite ?_ ?_)
      | (with_reducible refine LeO.bind ?_ (fun _ => ?_))
      | exact laws_eqIntS.mono _ _ _
      | exact LeO.none _
      | refine LeO.ite ?_ ?_
      | refine LeO.bind ?_ (fun _ => ?_)

/-! ### laws_markIntS: function 57 -/
def laws_markIntS.l0 : Nat → List Int → Int → Int → Option (Int × List Int)
  | 0, _, _, _ => none
  | k + 1, x0, x1, x5 => if x5 < (x0.length : Int) then (if 0 ≤ x5 then (laws_markIntS.l0 k (x0.set (x5 : Int).toNat x1) (wrap64 (x1 + 1)) (wrap64 (x5 + 1))) else (none)) else (some (x1, x0))
def laws_markIntS.f (k : Nat) (l0 : List Int) (a1 : Int) : Option (Int × List Int) := laws_markIntS.l0 k l0 a1 0
theorem laws_markIntS.mono_l : ∀ k, (∀ y0 y1 y2, LeO (laws_markIntS.l0 k y0 y1 y2) (laws_markIntS.l0 (k + 1) y0 y1 y2))
  | 0 => fun _ _ _ r h => by simp [laws_markIntS.l0] at h
  | k + 1 => by
    have ih0 := laws_markIntS.mono_l k
    · intro y0 y1 y2
      unfold laws_markIntS.l0
      repeat' first
      | (with_reducible exact ih0 _ _ _)
      | (with_reducible exact LeO.refl _)
      | (with_reducible exact LeO.none _)
      | (with_reducible refine LeO.ite ?_ ?_)
      | (with_reducible refine LeO.bind ?_ (fun _ => ?_))
      | exact ih0 _ _ _
      | exact LeO.none _
      | refine LeO.ite ?_ ?_
      | refine LeO.bind ?_ (fun _ => ?_)
theorem laws_markIntS.mono : ∀ a0 a1 k, LeO (laws_markIntS.f k a0 a1) (laws_markIntS.f (k + 1) a0 a1) := by
  intro a0 a1 k
  have ih0 := laws_markIntS.mono_l k
  unfold laws_markIntS.f
  repeat' first
      | (with_reducible exact ih0 _ _ _)
      | (with_reducible exact LeO.refl _)
      | (with_reducible exact LeO.none _)
      | (with_reducible refine LeO.ite ?_ ?_)
      | (with_reducible refine LeO.bind ?_ (fun _ => ?_))
      | exact ih0 _ _ _
      | exact LeO.none _
      | refine LeO.ite ?_ ?_
      | refine LeO.bind ?_ (fun _ => ?_)

/-! ### laws_markStairs: function 11 -/
def laws_markStairs.f (k : Nat) (a0_0 : Int) (l0_1 : List Int) (l0_2 : List Int) (a1 : Int) : Option (Int × List Int × List Int) := (laws_markIntS.f k l0_1 a1).bind fun bt240 => ((laws_markIntS.f k l0_2 bt240.1).bind fun bt242 => (some (bt242.1, bt240.2, bt242.2)))
theorem laws_markStairs.mono : ∀ a0 a1 a2 a3 k, LeO (laws_markStairs.f k a0 a1 a2 a3) (laws_markStairs.f (k + 1) a0 a1 a2 a3) := by
  intro a0 a1 a2 a3 k
  unfold laws_markStairs.f
  repeat' first
      | (with_reducible exact laws_markIntS.mono _ _ _)
      | (with_reducible exact LeO.refl _)
      | (with_reducible exact LeO.none _)
      | (with_reducible refine LeO.ite ?_ ?_)
      | (with_reducible refine LeO.bind ?_ (fun _ => ?_))
      | exact laws_markIntS.mono _ _ _
      | exact LeO.none _
      | refine LeO.ite ?_ ?_
      | refine LeO.bind ?_ (fun _ => ?_)

/-! ### laws_heldIntS: function 58 -/
def laws_heldIntS.l0 : Nat → List Int → Int → Int → Option (Int)
  | 0, _, _, _ => none
  | k + 1, x0, x1, x5 => if x5 < (x0.length : Int) then (if 0 ≤ x5 then (if (rd x0 x5) = x1 then (laws_heldIntS.l0 k x0 (wrap64 (x1 + 1)) (wrap64 (x5 + 1))) else (some (-1))) else (none)) else (some x1)
def laws_heldIntS.f (k : Nat) (l0 : List Int) (a1 : Int) : Option (Int) := laws_heldIntS.l0 k l0 a1 0
theorem laws_heldIntS.mono_l : ∀ k, (∀ y0 y1 y2, LeO (laws_heldIntS.l0 k y0 y1 y2) (laws_heldIntS.l0 (k + 1) y0 y1 y2))
  | 0 => fun _ _ _ r h => by simp [laws_heldIntS.l0] at h
  | k + 1 => by
    have ih0 := laws_heldIntS.mono_l k
    · intro y0 y1 y2
      unfold laws_heldIntS.l0
      repeat' first
      | (with_reducible exact ih0 _ _ _)
      | (with_reducible exact LeO.refl _)
      | (with_reducible exact LeO.none _)
      | (with_reducible refine LeO.ite ?_ ?_)
      | (with_reducible refine LeO.bind ?_ (fun _ => ?_))
      | exact ih0 _ _ _
      | exact LeO.none _
      | refine LeO.ite ?_ ?_
      | refine LeO.bind ?_ (fun _ => ?_)
theorem laws_heldIntS.mono : ∀ a0 a1 k, LeO (laws_heldIntS.f k a0 a1) (laws_heldIntS.f (k + 1) a0 a1) := by
  intro a0 a1 k
  have ih0 := laws_heldIntS.mono_l k
  unfold laws_heldIntS.f
  repeat' first
      | (with_reducible exact ih0 _ _ _)
      | (with_reducible exact LeO.refl _)
      | (with_reducible exact LeO.none _)
      | (with_reducible refine LeO.ite ?_ ?_)
      | (with_reducible refine LeO.bind ?_ (fun _ => ?_))
      | exact ih0 _ _ _
      | exact LeO.none _
      | refine LeO.ite ?_ ?_
      | refine LeO.bind ?_ (fun _ => ?_)

/-! ### laws_heldStairs: function 12 -/
def laws_heldStairs.f (k : Nat) (a0_0 : Int) (l0_1 : List Int) (l0_2 : List Int) (a1 : Int) : Option (Int) := (laws_heldIntS.f k l0_1 a1).bind fun t246 => (if t246 < 0 then (some (-1)) else ((laws_heldIntS.f k l0_2 t246).bind fun t247 => (if t247 < 0 then (some (-1)) else (some t247))))
theorem laws_heldStairs.mono : ∀ a0 a1 a2 a3 k, LeO (laws_heldStairs.f k a0 a1 a2 a3) (laws_heldStairs.f (k + 1) a0 a1 a2 a3) := by
  intro a0 a1 a2 a3 k
  unfold laws_heldStairs.f
  repeat' first
      | (with_reducible exact laws_heldIntS.mono _ _ _)
      | (with_reducible exact LeO.refl _)
      | (with_reducible exact LeO.none _)
      | (with_reducible refine LeO.ite ?_ ?_)
      | (with_reducible refine LeO.bind ?_ (fun _ => ?_))
      | exact laws_heldIntS.mono _ _ _
      | exact LeO.none _
      | refine LeO.ite ?_ ?_
      | refine LeO.bind ?_ (fun _ => ?_)

/-! ### laws_FnExactBreakStep: function 3 -/
mutual
def laws_FnExactBreakStep.j0 : Nat → Int → Bool → Bool → Bool → Int → List Int → List Int → Int → List Int → List Int → Int → List Int → List Int → Int → List Int → List Int → Option (Bool)
  | 0, _, _, _, _, _, _, _, _, _, _, _, _, _, _, _, _ => none
  | k + 1, x1, x7, x10, x44, x249000, x249001, x249002, x266000, x266001, x266002, x274000, x274001, x274002, x283000, x283001, x283002 => if x44 = true then (some false) else ((laws_toStairs.f k x249000 x249001 x249002).bind fun bt284 => ((laws_eqStairs.f k x274000 x274001 x274002 bt284.1 bt284.2.1 bt284.2.2).bind fun t291 => (if t291 = true then ((laws_markStairs.f k x274000 x274001 x274002 1).bind fun bt292 => (if bt292.1 < 0 then (laws_FnExactBreakStep.j1 k x1 x7 true x249000 x249001 x249002 x266000 x266001 x266002 x283000 x283001 x283002) else ((laws_eqStairs.f k x283000 x283001 x283002 x266000 x266001 x266002).bind fun t295 => (if t295 = true then (laws_FnExactBreakStep.j1 k x1 x7 (x10 != x7) x249000 x249001 x249002 x266000 x266001 x266002 x283000 x283001 x283002) else (laws_FnExactBreakStep.j1 k x1 x7 true x249000 x249001 x249002 x266000 x266001 x266002 x283000 x283001 x283002))))) else (some false))))
def laws_FnExactBreakStep.j1 : Nat → Int → Bool → Bool → Int → List Int → List Int → Int → List Int → List Int → Int → List Int → List Int → Option (Bool)
  | 0, _, _, _, _, _, _, _, _, _, _, _, _ => none
  | k + 1, x1, x7, x65, x249000, x249001, x249002, x266000, x266001, x266002, x283000, x283001, x283002 => if x65 = true then (some false) else ((laws_markStairs.f k x283000 x283001 x283002 1).bind fun bt296 => ((laws_heldStairs.f k x283000 bt296.2.1 bt296.2.2 1).bind fun t299 => (if t299 < 0 then (some false) else (if t299 = bt296.1 then ((laws_toStairs.f k x249000 x249001 x249002).bind fun bt300 => ((impl_BreakStep.f k bt300.1 bt300.2.1 bt300.2.2 x1).bind fun bt307 => ((laws_eqStairs.f k bt307.1 bt307.2.1 bt307.2.2.1 x266000 x266001 x266002).bind fun t316 => (if t316 = true then (laws_FnExactBreakStep.j2 k bt296.1 (bt307.2.2.2 != x7) x283000 bt296.2.1 bt296.2.2) else (laws_FnExactBreakStep.j2 k bt296.1 true x283000 bt296.2.1 bt296.2.2))))) else (some false)))))
def laws_FnExactBreakStep.j2 : Nat → Int → Bool → Int → List Int → List Int → Option (Bool)
  | 0, _, _, _, _, _ => none
  | k + 1, x12, x92, x283000, x283001, x283002 => if x92 = true then (some false) else ((laws_heldStairs.f k x283000 x283001 x283002 1).bind fun t317 => (if t317 < 0 then (some false) else (if t317 = x12 then (some true) else (some false))))
end
def laws_FnExactBreakStep.f (k : Nat) (a0_0 : Int) (l0_1 : List Int) (l0_2 : List Int) (a1 : Int) : Option (Bool) := (laws_szStairs.f a0_0 l0_1 l0_2 1048576).bind fun t249 => (if t249 < 0 then (some true) else ((laws_toStairs.f k a0_0 l0_1 l0_2).bind fun bt250 => ((spec_BreakStep.f k bt250.1 bt250.2.1 bt250.2.2 a1).bind fun bt257 => ((laws_toStairs.f k a0_0 l0_1 l0_2).bind fun bt266 => ((impl_BreakStep.f k bt266.1 bt266.2.1 bt266.2.2 a1).bind fun bt274 => ((laws_eqStairs.f k bt274.1 bt274.2.1 bt274.2.2.1 bt257.1 bt257.2.1 bt257.2.2.1).bind fun t283 => (if t283 = true then (laws_FnExactBreakStep.j0 k a1 bt257.2.2.2 bt274.2.2.2 (bt274.2.2.2 != bt257.2.2.2) a0_0 l0_1 l0_2 bt257.1 bt257.2.1 bt257.2.2.1 bt266.1 bt266.2.1 bt266.2.2 bt274.1 bt274.2.1 bt274.2.2.1) else (laws_FnExactBreakStep.j0 k a1 bt257.2.2.2 bt274.2.2.2 true a0_0 l0_1 l0_2 bt257.1 bt257.2.1 bt257.2.2.1 bt266.1 bt266.2.1 bt266.2.2 bt274.1 bt274.2.1 bt274.2.2.1))))))))
theorem laws_FnExactBreakStep.mono_l : ∀ k, (∀ y0 y1 y2 y3 y4 y5 y6 y7 y8 y9 y10 y11 y12 y13 y14 y15, LeO (laws_FnExactBreakStep.j0 k y0 y1 y2 y3 y4 y5 y6 y7 y8 y9 y10 y11 y12 y13 y14 y15) (laws_FnExactBreakStep.j0 (k + 1) y0 y1 y2 y3 y4 y5 y6 y7 y8 y9 y10 y11 y12 y13 y14 y15)) ∧ (∀ y0 y1 y2 y3 y4 y5 y6 y7 y8 y9 y10 y11, LeO (laws_FnExactBreakStep.j1 k y0 y1 y2 y3 y4 y5 y6 y7 y8 y9 y10 y11) (laws_FnExactBreakStep.j1 (k + 1) y0 y1 y2 y3 y4 y5 y6 y7 y8 y9 y10 y11)) ∧ (∀ y0 y1 y2 y3 y4, LeO (laws_FnExactBreakStep.j2 k y0 y1 y2 y3 y4) (laws_FnExactBreakStep.j2 (k + 1) y0 y1 y2 y3 y4))
  | 0 => ⟨fun _ _ _ _ _ _ _ _ _ _ _ _ _ _ _ _ r h => by simp [laws_FnExactBreakStep.j0] at h, fun _ _ _ _ _ _ _ _ _ _ _ _ r h => by simp [laws_FnExactBreakStep.j1] at h, fun _ _ _ _ _ r h => by simp [laws_FnExactBreakStep.j2] at h⟩
  | k + 1 => by
    obtain ⟨ih0, ih1, ih2⟩ := laws_FnExactBreakStep.mono_l k
    refine ⟨?_, ?_, ?_⟩
    · intro y0 y1 y2 y3 y4 y5 y6 y7 y8 y9 y10 y11 y12 y13 y14 y15
      unfold laws_FnExactBreakStep.j0
      repeat' first
      | (with_reducible exact ih0 _ _ _ _ _ _ _ _ _ _ _ _ _ _ _ _)
      | (with_reducible exact ih1 _ _ _ _ _ _ _ _ _ _ _ _)
      | (with_reducible exact ih2 _ _ _ _ _)
      | (with_reducible exact impl_BreakStep.mono _ _ _ _ _)
      | (with_reducible exact laws_eqStairs.mono _ _ _ _ _ _ _)
      | (with_reducible exact laws_heldStairs.mono _ _ _ _ _)
      | (with_reducible exact laws_markStairs.mono _ _ _ _ _)
      | (with_reducible exact laws_toStairs.mono _ _ _ _)
      | (with_reducible exact spec_BreakStep.mono _ _ _ _ _)
      | (with_reducible exact LeO.refl _)
      | (with_reducible exact LeO.none _)
      | (with_reducible refine LeO.ite ?_ ?_)
      | (with_reducible refine LeO.bind ?_ (fun _ => ?_))
      | exact ih0 _ _ _ _ _ _ _ _ _ _ _ _ _ _ _ _
      | exact ih1 _ _ _ _ _ _ _ _ _ _ _ _
      | exact ih2 _ _ _ _ _
      | exact impl_BreakStep.mono _ _ _ _ _
      | exact laws_eqStairs.mono _ _ _ _ _ _ _
      | exact laws_heldStairs.mono _ _ _ _ _
      | exact laws_markStairs.mono _ _ _ _ _
      | exact laws_toStairs.mono _ _ _ _
      | exact spec_BreakStep.mono _ _ _ _ _
      | exact LeO.none _
      | refine LeO.ite ?_ ?_
      | refine LeO.bind ?_ (fun _ => ?_)
    · intro y0 y1 y2 y3 y4 y5 y6 y7 y8 y9 y10 y11
      unfold laws_FnExactBreakStep.j1
      repeat' first
      | (with_reducible exact ih0 _ _ _ _ _ _ _ _ _ _ _ _ _ _ _ _)
      | (with_reducible exact ih1 _ _ _ _ _ _ _ _ _ _ _ _)
      | (with_reducible exact ih2 _ _ _ _ _)
      | (with_reducible exact impl_BreakStep.mono _ _ _ _ _)
      | (with_reducible exact laws_eqStairs.mono _ _ _ _ _ _ _)
      | (with_reducible exact laws_heldStairs.mono _ _ _ _ _)
      | (with_reducible exact laws_markStairs.mono _ _ _ _ _)
      | (with_reducible exact laws_toStairs.mono _ _ _ _)
      | (with_reducible exact spec_BreakStep.mono _ _ _ _ _)
      | (with_reducible exact LeO.refl _)
      | (with_reducible exact LeO.none _)
      | (with_reducible refine LeO.ite ?_ ?_)
      | (with_reducible refine LeO.bind ?_ (fun _ => ?_))
      | exact ih0 _ _ _ _ _ _ _ _ _ _ _ _ _ _ _ _
      | exact ih1 _ _ _ _ _ _ _ _ _ _ _ _
      | exact ih2 _ _ _ _ _
      | exact impl_BreakStep.mono _ _ _ _ _
      | exact laws_eqStairs.mono _ _ _ _ _ _ _
      | exact laws_heldStairs.mono _ _ _ _ _
      | exact laws_markStairs.mono _ _ _ _ _
      | exact laws_toStairs.mono _ _ _ _
      | exact spec_BreakStep.mono _ _ _ _ _
      | exact LeO.none _
      | refine LeO.ite ?_ ?_
      | refine LeO.bind ?_ (fun _ => ?_)
    · intro y0 y1 y2 y3 y4
      unfold laws_FnExactBreakStep.j2
      repeat' first
      | (with_reducible exact ih0 _ _ _ _ _ _ _ _ _ _ _ _ _ _ _ _)
      | (with_reducible exact ih1 _ _ _ _ _ _ _ _ _ _ _ _)
      | (with_reducible exact ih2 _ _ _ _ _)
      | (with_reducible exact impl_BreakStep.mono _ _ _ _ _)
      | (with_reducible exact laws_eqStairs.mono _ _ _ _ _ _ _)
      | (with_reducible exact laws_heldStairs.mono _ _ _ _ _)
      | (with_reducible exact laws_markStairs.mono _ _ _ _ _)
      | (with_reducible exact laws_toStairs.mono _ _ _ _)
      | (with_reducible exact spec_BreakStep.mono _ _ _ _ _)
      | (with_reducible exact LeO.refl _)
      | (with_reducible exact LeO.none _)
      | (with_reducible refine LeO.ite ?_ ?_)
      | (with_reducible refine LeO.bind ?_ (fun _ => ?_))
      | exact ih0 _ _ _ _ _ _ _ _ _ _ _ _ _ _ _ _
      | exact ih1 _ _ _ _ _ _ _ _ _ _ _ _
      | exact ih2 _ _ _ _ _
      | exact impl_BreakStep.mono _ _ _ _ _
      | exact laws_eqStairs.mono _ _ _ _ _ _ _
      | exact laws_heldStairs.mono _ _ _ _ _
      | exact laws_markStairs.mono _ _ _ _ _
      | exact laws_toStairs.mono _ _ _ _
      | exact spec_BreakStep.mono _ _ _ _ _
      | exact LeO.none _
      | refine LeO.ite ?_ ?_
      | refine LeO.bind ?_ (fun _ => ?_)
theorem laws_FnExactBreakStep.mono : ∀ a0 a1 a2 a3 k, LeO (laws_FnExactBreakStep.f k a0 a1 a2 a3) (laws_FnExactBreakStep.f (k + 1) a0 a1 a2 a3) := by
  intro a0 a1 a2 a3 k
  obtain ⟨ih0, ih1, ih2⟩ := laws_FnExactBreakStep.mono_l k
  unfold laws_FnExactBreakStep.f
  repeat' first
      | (with_reducible exact ih0 _ _ _ _ _ _ _ _ _ _ _ _ _ _ _ _)
      | (with_reducible exact ih1 _ _ _ _ _ _ _ _ _ _ _ _)
      | (with_reducible exact ih2 _ _ _ _ _)
      | (with_reducible exact impl_BreakStep.mono _ _ _ _ _)
      | (with_reducible exact laws_eqStairs.mono _ _ _ _ _ _ _)
      | (with_reducible exact laws_heldStairs.mono _ _ _ _ _)
      | (with_reducible exact laws_markStairs.mono _ _ _ _ _)
      | (with_reducible exact laws_toStairs.mono _ _ _ _)
      | (with_reducible exact spec_BreakStep.mono _ _ _ _ _)
      | (with_reducible exact LeO.refl _)
      | (with_reducible exact LeO.none _)
      | (with_reducible refine LeO.ite ?_ ?_)
      | (with_reducible refine LeO.bind ?_ (fun _ => ?_))
      | exact ih0 _ _ _ _ _ _ _ _ _ _ _ _ _ _ _ _
      | exact ih1 _ _ _ _ _ _ _ _ _ _ _ _
      | exact ih2 _ _ _ _ _
      | exact impl_BreakStep.mono _ _ _ _ _
      | exact laws_eqStairs.mono _ _ _ _ _ _ _
      | exact laws_heldStairs.mono _ _ _ _ _
      | exact laws_markStairs.mono _ _ _ _ _
      | exact laws_toStairs.mono _ _ _ _
      | exact spec_BreakStep.mono _ _ _ _ _
      | exact LeO.none _
      | refine LeO.ite ?_ ?_
      | refine LeO.bind ?_ (fun _ => ?_)

/-! ### impl_Stairs_up: function 63 -/
mutual
def impl_Stairs_up.l0 : Nat → List Int → Int → Int → List Int → List Int → Option (List Int)
  | 0, _, _, _, _, _ => none
  | k + 1, x3, x4, x319000, x319001, x319002 => if x4 ≥ 0 then (impl_Stairs_up.l1 k x3 x4 x319001 (x319001.length : Int) 0 x319000 x319001 x319002) else (some x3)
def impl_Stairs_up.l1 : Nat → List Int → Int → List Int → Int → Int → Int → List Int → List Int → Option (List Int)
  | 0, _, _, _, _, _, _, _, _ => none
  | k + 1, x3, x4, x23, x24, x25, x319000, x319001, x319002 => if x25 < x24 then (if 0 ≤ x25 then (if x25 < (x23.length : Int) then (if (wrap64 (x4 + (rd x23 x25))) ≤ x319000 then ((impl_Stairs_isBroken.f k x319000 x319001 x319002 x4).bind fun t324 => (if t324 = true then (impl_Stairs_up.l1 k x3 x4 x23 x24 (wrap64 (x25 + 1)) x319000 x319001 x319002) else (if 0 ≤ x4 then (if x4 < (x3.length : Int) then (if 0 ≤ (wrap64 (x4 + (rd x23 x25))) then (if (wrap64 (x4 + (rd x23 x25))) < (x3.length : Int) then (impl_Stairs_up.l1 k (x3.set (x4 : Int).toNat (wrap64 ((rd x3 x4) + (rd x3 (wrap64 (x4 + (rd x23 x25))))))) x4 x23 x24 (wrap64 (x25 + 1)) x319000 x319001 x319002) else (none)) else (none)) else (none)) else (none)))) else (impl_Stairs_up.l1 k x3 x4 x23 x24 (wrap64 (x25 + 1)) x319000 x319001 x319002)) else (none)) else (none)) else (impl_Stairs_up.l0 k x3 (wrap64 (x4 - 1)) x319000 x319001 x319002)
end
def impl_Stairs_up.f (k : Nat) (a0_0 : Int) (l0_1 : List Int) (l0_2 : List Int) : Option (List Int) := if 0 ≤ (wrap64 (a0_0 + 1)) then (if (wrap64 (a0_0 + 1) : Int).toNat ≤ 35184372088832 then ((some (List.replicate (wrap64 (a0_0 + 1) : Int).toNat 0 : List Int)).bind fun y319 => (if 0 ≤ a0_0 then (if a0_0 < (y319.length : Int) then (impl_Stairs_up.l0 k (y319.set (a0_0 : Int).toNat 1) (wrap64 (a0_0 - 1)) a0_0 l0_1 l0_2) else (none)) else (none))) else (none)) else (none)
theorem impl_Stairs_up.mono_l : ∀ k, (∀ y0 y1 y2 y3 y4, LeO (impl_Stairs_up.l0 k y0 y1 y2 y3 y4) (impl_Stairs_up.l0 (k + 1) y0 y1 y2 y3 y4)) ∧ (∀ y0 y1 y2 y3 y4 y5 y6 y7, LeO (impl_Stairs_up.l1 k y0 y1 y2 y3 y4 y5 y6 y7) (impl_Stairs_up.l1 (k + 1) y0 y1 y2 y3 y4 y5 y6 y7))
  | 0 => ⟨fun _ _ _ _ _ r h => by simp [impl_Stairs_up.l0] at h, fun _ _ _ _ _ _ _ _ r h => by simp [impl_Stairs_up.l1] at h⟩
  | k + 1 => by
    obtain ⟨ih0, ih1⟩ := impl_Stairs_up.mono_l k
    refine ⟨?_, ?_⟩
    · intro y0 y1 y2 y3 y4
      unfold impl_Stairs_up.l0
      repeat' first
      | (with_reducible exact ih0 _ _ _ _ _)
      | (with_reducible exact ih1 _ _ _ _ _ _ _ _)
      | (with_reducible exact impl_Stairs_isBroken.mono _ _ _ _ _)
      | (with_reducible exact LeO.refl _)
      | (with_reducible exact LeO.none _)
      | (with_reducible refine LeO.ite ?_ ?_)
      | (with_reducible refine LeO.bind ?_ (fun _ => ?_))
      | exact ih0 _ _ _ _ _
      | exact ih1 _ _ _ _ _ _ _ _
      | exact impl_Stairs_isBroken.mono _ _ _ _ _
      | exact LeO.none _
      | refine LeO.ite ?_ ?_
      | refine LeO.bind ?_ (fun _ => ?_)
    · intro y0 y1 y2 y3 y4 y5 y6 y7
      unfold impl_Stairs_up.l1
      repeat' first
      | (with_reducible exact ih0 _ _ _ _ _)
      | (with_reducible exact ih1 _ _ _ _ _ _ _ _)
      | (with_reducible exact impl_Stairs_isBroken.mono _ _ _ _ _)
      | (with_reducible exact LeO.refl _)
      | (with_reducible exact LeO.none _)
      | (with_reducible refine LeO.ite ?_ ?_)
      | (with_reducible refine LeO.bind ?_ (fun _ => ?_))
      | exact ih0 _ _ _ _ _
      | exact ih1 _ _ _ _ _ _ _ _
      | exact impl_Stairs_isBroken.mono _ _ _ _ _
      | exact LeO.none _
      | refine LeO.ite ?_ ?_
      | refine LeO.bind ?_ (fun _ => ?_)
theorem impl_Stairs_up.mono : ∀ a0 a1 a2 k, LeO (impl_Stairs_up.f k a0 a1 a2) (impl_Stairs_up.f (k + 1) a0 a1 a2) := by
  intro a0 a1 a2 k
  obtain ⟨ih0, ih1⟩ := impl_Stairs_up.mono_l k
  unfold impl_Stairs_up.f
  repeat' first
      | (with_reducible exact ih0 _ _ _ _ _)
      | (with_reducible exact ih1 _ _ _ _ _ _ _ _)
      | (with_reducible exact impl_Stairs_isBroken.mono _ _ _ _ _)
      | (with_reducible exact LeO.refl _)
      | (with_reducible exact LeO.none _)
      | (with_reducible refine LeO.ite ?_ ?_)
      | (with_reducible refine LeO.bind ?_ (fun _ => ?_))
      | exact ih0 _ _ _ _ _
      | exact ih1 _ _ _ _ _ _ _ _
      | exact impl_Stairs_isBroken.mono _ _ _ _ _
      | exact LeO.none _
      | refine LeO.ite ?_ ?_
      | refine LeO.bind ?_ (fun _ => ?_)

/-! ### impl_counted: function 59 -/
def impl_counted.f (k : Nat) (a0_0 : Int) (l0_1 : List Int) (l0_2 : List Int) : Option (List Int × Bool) := (impl_AreStairs.f k a0_0 l0_1 l0_2).bind fun t329 => (if t329 = true then ((impl_Stairs_up.f k a0_0 l0_1 l0_2).bind fun t330 => (if 0 < (t330.length : Int) then (some (t330, decide ((rd t330 0) ≤ 1000000000000000))) else (none))) else (some (([] : List Int), false)))
theorem impl_counted.mono : ∀ a0 a1 a2 k, LeO (impl_counted.f k a0 a1 a2) (impl_counted.f (k + 1) a0 a1 a2) := by
  intro a0 a1 a2 k
  unfold impl_counted.f
  repeat' first
      | (with_reducible exact impl_AreStairs.mono _ _ _ _)
      | (with_reducible exact impl_Stairs_up.mono _ _ _ _)
      | (with_reducible exact LeO.refl _)
      | (with_reducible exact LeO.none _)
      | (with_reducible refine LeO.ite ?_ ?_)
      | (with_reducible refine LeO.bind ?_ (fun _ => ?_))
      | exact impl_AreStairs.mono _ _ _ _
      | exact impl_Stairs_up.mono _ _ _ _
      | exact LeO.none _
      | refine LeO.ite ?_ ?_
      | refine LeO.bind ?_ (fun _ => ?_)

/-! ### impl_Stairs_ofRank: function 60 -/
mutual
def impl_Stairs_ofRank.l0 : Nat → List Int → Int → List Int → Int → Int → List Int → List Int → Option (List Int)
  | 0, _, _, _, _, _, _, _ => none
  | k + 1, x1, x2, x7, x8, x335000, x335001, x335002 => if x8 < x335000 then (impl_Stairs_ofRank.l1 k x1 x2 x7 x8 x335001 (x335001.length : Int) 0 x335000 x335001 x335002) else (some x7)
def impl_Stairs_ofRank.l1 : Nat → List Int → Int → List Int → Int → List Int → Int → Int → Int → List Int → List Int → Option (List Int)
  | 0, _, _, _, _, _, _, _, _, _, _ => none
  | k + 1, x1, x2, x7, x8, x17, x18, x19, x335000, x335001, x335002 => if x19 < x18 then (if 0 ≤ x19 then (if x19 < (x17.length : Int) then (if (wrap64 (x8 + (rd x17 x19))) > x335000 then (impl_Stairs_ofRank.l1 k x1 x2 x7 x8 x17 x18 (wrap64 (x19 + 1)) x335000 x335001 x335002) else (if 0 ≤ (wrap64 (x8 + (rd x17 x19))) then (if (wrap64 (x8 + (rd x17 x19))) < (x1.length : Int) then (if x2 < (rd x1 (wrap64 (x8 + (rd x17 x19)))) then (if x7.length < 17592186044416 then (impl_Stairs_ofRank.l0 k x1 x2 (x7 ++ [rd x17 x19]) (wrap64 (x8 + (rd x17 x19))) x335000 x335001 x335002) else (none)) else (impl_Stairs_ofRank.l1 k x1 (wrap64 (x2 - (rd x1 (wrap64 (x8 + (rd x17 x19)))))) x7 x8 x17 x18 (wrap64 (x19 + 1)) x335000 x335001 x335002)) else (none)) else (none))) else (none)) else (none)) else (impl_Stairs_ofRank.l0 k x1 x2 x7 x8 x335000 x335001 x335002)
end
def impl_Stairs_ofRank.f (k : Nat) (a0_0 : Int) (l0_1 : List Int) (l0_2 : List Int) (l1 : List Int) (a2 : Int) : Option (List Int) := impl_Stairs_ofRank.l0 k l1 a2 (([] : List Int)) 0 a0_0 l0_1 l0_2
theorem impl_Stairs_ofRank.mono_l : ∀ k, (∀ y0 y1 y2 y3 y4 y5 y6, LeO (impl_Stairs_ofRank.l0 k y0 y1 y2 y3 y4 y5 y6) (impl_Stairs_ofRank.l0 (k + 1) y0 y1 y2 y3 y4 y5 y6)) ∧ (∀ y0 y1 y2 y3 y4 y5 y6 y7 y8 y9, LeO (impl_Stairs_ofRank.l1 k y0 y1 y2 y3 y4 y5 y6 y7 y8 y9) (impl_Stairs_ofRank.l1 (k + 1) y0 y1 y2 y3 y4 y5 y6 y7 y8 y9))
  | 0 => ⟨fun _ _ _ _ _ _ _ r h => by simp [impl_Stairs_ofRank.l0] at h, fun _ _ _ _ _ _ _ _ _ _ r h => by simp [impl_Stairs_ofRank.l1] at h⟩
  | k + 1 => by
    obtain ⟨ih0, ih1⟩ := impl_Stairs_ofRank.mono_l k
    refine ⟨?_, ?_⟩
    · intro y0 y1 y2 y3 y4 y5 y6
      unfold impl_Stairs_ofRank.l0
      repeat' first
      | (with_reducible exact ih0 _ _ _ _ _ _ _)
      | (with_reducible exact ih1 _ _ _ _ _ _ _ _ _ _)
      | (with_reducible exact LeO.refl _)
      | (with_reducible exact LeO.none _)
      | (with_reducible refine LeO.ite ?_ ?_)
      | (with_reducible refine LeO.bind ?_ (fun _ => ?_))
      | exact ih0 _ _ _ _ _ _ _
      | exact ih1 _ _ _ _ _ _ _ _ _ _
      | exact LeO.none _
      | refine LeO.ite ?_ ?_
      | refine LeO.bind ?_ (fun _ => ?_)
    · intro y0 y1 y2 y3 y4 y5 y6 y7 y8 y9
      unfold impl_Stairs_ofRank.l1
      repeat' first
      | (with_reducible exact ih0 _ _ _ _ _ _ _)
      | (with_reducible exact ih1 _ _ _ _ _ _ _ _ _ _)
      | (with_reducible exact LeO.refl _)
      | (with_reducible exact LeO.none _)
      | (with_reducible refine LeO.ite ?_ ?_)
      | (with_reducible refine LeO.bind ?_ (fun _ => ?_))
      | exact ih0 _ _ _ _ _ _ _
      | exact ih1 _ _ _ _ _ _ _ _ _ _
      | exact LeO.none _
      | refine LeO.ite ?_ ?_
      | refine LeO.bind ?_ (fun _ => ?_)
theorem impl_Stairs_ofRank.mono : ∀ a0 a1 a2 a3 a4 k, LeO (impl_Stairs_ofRank.f k a0 a1 a2 a3 a4) (impl_Stairs_ofRank.f (k + 1) a0 a1 a2 a3 a4) := by
  intro a0 a1 a2 a3 a4 k
  obtain ⟨ih0, ih1⟩ := impl_Stairs_ofRank.mono_l k
  unfold impl_Stairs_ofRank.f
  repeat' first
      | (with_reducible exact ih0 _ _ _ _ _ _ _)
      | (with_reducible exact ih1 _ _ _ _ _ _ _ _ _ _)
      | (with_reducible exact LeO.refl _)
      | (with_reducible exact LeO.none _)
      | (with_reducible refine LeO.ite ?_ ?_)
      | (with_reducible refine LeO.bind ?_ (fun _ => ?_))
      | exact ih0 _ _ _ _ _ _ _
      | exact ih1 _ _ _ _ _ _ _ _ _ _
      | exact LeO.none _
      | refine LeO.ite ?_ ?_
      | refine LeO.bind ?_ (fun _ => ?_)

/-! ### impl_ClimbOfRank: function 13 -/
def impl_ClimbOfRank.f (k : Nat) (a0_0 : Int) (l0_1 : List Int) (l0_2 : List Int) (a1 : Int) : Option (List Int × Bool) := (impl_counted.f k a0_0 l0_1 l0_2).bind fun bt345 => (if bt345.2 = true then (if 0 < (bt345.1.length : Int) then ((impl_within.f a1 0 (wrap64 ((rd bt345.1 0) - 1))).bind fun t350 => (if t350 = true then ((impl_Stairs_ofRank.f k a0_0 l0_1 l0_2 bt345.1 a1).bind fun t351 => (some (t351, true))) else (some (([] : List Int), false)))) else (none)) else (some (([] : List Int), false)))
theorem impl_ClimbOfRank.mono : ∀ a0 a1 a2 a3 k, LeO (impl_ClimbOfRank.f k a0 a1 a2 a3) (impl_ClimbOfRank.f (k + 1) a0 a1 a2 a3) := by
  intro a0 a1 a2 a3 k
  unfold impl_ClimbOfRank.f
  repeat' first
      | (with_reducible exact impl_Stairs_ofRank.mono _ _ _ _ _ _)
      | (with_reducible exact impl_counted.mono _ _ _ _)
      | (with_reducible exact LeO.refl _)
      | (with_reducible exact LeO.none _)
      | (with_reducible refine LeO.ite ?_ ?_)
      | (with_reducible refine LeO.bind ?_ (fun _ => ?_))
      | exact impl_Stairs_ofRank.mono _ _ _ _ _ _
      | exact impl_counted.mono _ _ _ _
      | exact LeO.none _
      | refine LeO.ite ?_ ?_
      | refine LeO.bind ?_ (fun _ => ?_)

/-! ### spec_clStands: function 85 -/
def spec_clStands.f (k : Nat) (a0_0 : Int) (l0_1 : List Int) (l0_2 : List Int) (a1 : Int) : Option (Bool) := (spec_l1In.f a1 0 a0_0).bind fun t355 => (if t355 = true then ((spec_l1Has.f k l0_2 a1).bind fun t356 => (some (!t356))) else (some false))
theorem spec_clStands.mono : ∀ a0 a1 a2 a3 k, LeO (spec_clStands.f k a0 a1 a2 a3) (spec_clStands.f (k + 1) a0 a1 a2 a3) := by
  intro a0 a1 a2 a3 k
  unfold spec_clStands.f
  repeat' first
      | (with_reducible exact spec_l1Has.mono _ _ _)
      | (with_reducible exact LeO.refl _)
      | (with_reducible exact LeO.none _)
      | (with_reducible refine LeO.ite ?_ ?_)
      | (with_reducible refine LeO.bind ?_ (fun _ => ?_))
      | exact spec_l1Has.mono _ _ _
      | exact LeO.none _
      | refine LeO.ite ?_ ?_
      | refine LeO.bind ?_ (fun _ => ?_)

/-! ### spec_l1Least: function 86 -/
def spec_l1Least.f (a0 : Int) (a1 : Int) : Option (Int) := if a0 < a1 then (some a0) else (some a1)

/-! ### spec_clWays: function 62 -/
mutual
def spec_clWays.l0 : Nat → List Int → Int → Int → List Int → List Int → Option (List Int)
  | 0, _, _, _, _, _ => none
  | k + 1, x3, x4, x358000, x358001, x358002 => if x4 ≥ 0 then ((spec_clStands.f k x358000 x358001 x358002 x4).bind fun t362 => (if t362 = true then (spec_clWays.l1 k x3 x4 x358001 (x358001.length : Int) 0 x358000 x358001 x358002) else (spec_clWays.l0 k x3 (wrap64 (x4 - 1)) x358000 x358001 x358002))) else (some x3)
def spec_clWays.l1 : Nat → List Int → Int → List Int → Int → Int → Int → List Int → List Int → Option (List Int)
  | 0, _, _, _, _, _, _, _, _ => none
  | k + 1, x3, x4, x27, x28, x29, x358000, x358001, x358002 => if x29 < x28 then (if 0 ≤ x29 then (if x29 < (x27.length : Int) then (if (wrap64 (x4 + (rd x27 x29))) ≤ x358000 then (if 0 ≤ x4 then (if x4 < (x3.length : Int) then (if 0 ≤ (wrap64 (x4 + (rd x27 x29))) then (if (wrap64 (x4 + (rd x27 x29))) < (x3.length : Int) then ((spec_l1Least.f (wrap64 ((rd x3 x4) + (rd x3 (wrap64 (x4 + (rd x27 x29)))))) 1000000000000001).bind fun t366 => (spec_clWays.l1 k (x3.set (x4 : Int).toNat t366) x4 x27 x28 (wrap64 (x29 + 1)) x358000 x358001 x358002)) else (none)) else (none)) else (none)) else (none)) else (spec_clWays.l1 k x3 x4 x27 x28 (wrap64 (x29 + 1)) x358000 x358001 x358002)) else (none)) else (none)) else (spec_clWays.l0 k x3 (wrap64 (x4 - 1)) x358000 x358001 x358002)
end
def spec_clWays.f (k : Nat) (a0_0 : Int) (l0_1 : List Int) (l0_2 : List Int) : Option (List Int) := if 0 ≤ (wrap64 (a0_0 + 1)) then (if (wrap64 (a0_0 + 1) : Int).toNat ≤ 35184372088832 then ((some (List.replicate (wrap64 (a0_0 + 1) : Int).toNat 0 : List Int)).bind fun y358 => (if 0 ≤ a0_0 then (if a0_0 < (y358.length : Int) then (spec_clWays.l0 k (y358.set (a0_0 : Int).toNat 1) (wrap64 (a0_0 - 1)) a0_0 l0_1 l0_2) else (none)) else (none))) else (none)) else (none)
theorem spec_clWays.mono_l : ∀ k, (∀ y0 y1 y2 y3 y4, LeO (spec_clWays.l0 k y0 y1 y2 y3 y4) (spec_clWays.l0 (k + 1) y0 y1 y2 y3 y4)) ∧ (∀ y0 y1 y2 y3 y4 y5 y6 y7, LeO (spec_clWays.l1 k y0 y1 y2 y3 y4 y5 y6 y7) (spec_clWays.l1 (k + 1) y0 y1 y2 y3 y4 y5 y6 y7))
  | 0 => ⟨fun _ _ _ _ _ r h => by simp [spec_clWays.l0] at h, fun _ _ _ _ _ _ _ _ r h => by simp [spec_clWays.l1] at h⟩
  | k + 1 => by
    obtain ⟨ih0, ih1⟩ := spec_clWays.mono_l k
    refine ⟨?_, ?_⟩
    · intro y0 y1 y2 y3 y4
      unfold spec_clWays.l0
      repeat' first
      | (with_reducible exact ih0 _ _ _ _ _)
      | (with_reducible exact ih1 _ _ _ _ _ _ _ _)
      | (with_reducible exact spec_clStands.mono _ _ _ _ _)
      | (with_reducible exact LeO.refl _)
      | (with_reducible exact LeO.none _)
      | (with_reducible refine LeO.ite ?_ ?_)
      | (with_reducible refine LeO.bind ?_ (fun _ => ?_))
      | exact ih0 _ _ _ _ _
      | exact ih1 _ _ _ _ _ _ _ _
      | exact spec_clStands.mono _ _ _ _ _
      | exact LeO.none _
      | refine LeO.ite ?_ ?_
      | refine LeO.bind ?_ (fun _ => ?_)
    · intro y0 y1 y2 y3 y4 y5 y6 y7
      unfold spec_clWays.l1
      repeat' first
      | (with_reducible exact ih0 _ _ _ _ _)
      | (with_reducible exact ih1 _ _ _ _ _ _ _ _)
      | (with_reducible exact spec_clStands.mono _ _ _ _ _)
      | (with_reducible exact LeO.refl _)
      | (with_reducible exact LeO.none _)
      | (with_reducible refine LeO.ite ?_ ?_)
      | (with_reducible refine LeO.bind ?_ (fun _ => ?_))
      | exact ih0 _ _ _ _ _
      | exact ih1 _ _ _ _ _ _ _ _
      | exact spec_clStands.mono _ _ _ _ _
      | exact LeO.none _
      | refine LeO.ite ?_ ?_
      | refine LeO.bind ?_ (fun _ => ?_)
theorem spec_clWays.mono : ∀ a0 a1 a2 k, LeO (spec_clWays.f k a0 a1 a2) (spec_clWays.f (k + 1) a0 a1 a2) := by
  intro a0 a1 a2 k
  obtain ⟨ih0, ih1⟩ := spec_clWays.mono_l k
  unfold spec_clWays.f
  repeat' first
      | (with_reducible exact ih0 _ _ _ _ _)
      | (with_reducible exact ih1 _ _ _ _ _ _ _ _)
      | (with_reducible exact spec_clStands.mono _ _ _ _ _)
      | (with_reducible exact LeO.refl _)
      | (with_reducible exact LeO.none _)
      | (with_reducible refine LeO.ite ?_ ?_)
      | (with_reducible refine LeO.bind ?_ (fun _ => ?_))
      | exact ih0 _ _ _ _ _
      | exact ih1 _ _ _ _ _ _ _ _
      | exact spec_clStands.mono _ _ _ _ _
      | exact LeO.none _
      | refine LeO.ite ?_ ?_
      | refine LeO.bind ?_ (fun _ => ?_)

/-! ### spec_clCounted: function 61 -/
def spec_clCounted.f (k : Nat) (a0_0 : Int) (l0_1 : List Int) (l0_2 : List Int) : Option (Bool) := (spec_clGood.f k a0_0 l0_1 l0_2).bind fun t369 => (if t369 = true then ((spec_clWays.f k a0_0 l0_1 l0_2).bind fun t370 => (if 0 < (t370.length : Int) then (some (decide ((rd t370 0) ≤ 1000000000000000))) else (none))) else (some false))
theorem spec_clCounted.mono : ∀ a0 a1 a2 k, LeO (spec_clCounted.f k a0 a1 a2) (spec_clCounted.f (k + 1) a0 a1 a2) := by
  intro a0 a1 a2 k
  unfold spec_clCounted.f
  repeat' first
      | (with_reducible exact spec_clGood.mono _ _ _ _)
      | (with_reducible exact spec_clWays.mono _ _ _ _)
      | (with_reducible exact LeO.refl _)
      | (with_reducible exact LeO.none _)
      | (with_reducible refine LeO.ite ?_ ?_)
      | (with_reducible refine LeO.bind ?_ (fun _ => ?_))
      | exact spec_clGood.mono _ _ _ _
      | exact spec_clWays.mono _ _ _ _
      | exact LeO.none _
      | refine LeO.ite ?_ ?_
      | refine LeO.bind ?_ (fun _ => ?_)

/-! ### spec_ClimbOfRank: function 14 -/
mutual
def spec_ClimbOfRank.j0 : Nat → Int → Bool → Int → List Int → List Int → Option (List Int × Bool)
  | 0, _, _, _, _, _ => none
  | k + 1, x1, x26, x375000, x375001, x375002 => if x26 = true then (some (([] : List Int), false)) else ((spec_clWays.f k x375000 x375001 x375002).bind fun t380 => (spec_ClimbOfRank.l0 k x1 t380 ([] : List Int) 0 x375000 x375001 x375002))
def spec_ClimbOfRank.l0 : Nat → Int → List Int → List Int → Int → Int → List Int → List Int → Option (List Int × Bool)
  | 0, _, _, _, _, _, _, _ => none
  | k + 1, x1, x6, x7, x8, x375000, x375001, x375002 => if x8 < x375000 then (spec_ClimbOfRank.l1 k x1 x6 x7 x8 x375001 (x375001.length : Int) 0 x375000 x375001 x375002) else (some (x7, true))
def spec_ClimbOfRank.l1 : Nat → Int → List Int → List Int → Int → List Int → Int → Int → Int → List Int → List Int → Option (List Int × Bool)
  | 0, _, _, _, _, _, _, _, _, _, _ => none
  | k + 1, x1, x6, x7, x8, x34, x35, x36, x375000, x375001, x375002 => if x36 < x35 then (if 0 ≤ x36 then (if x36 < (x34.length : Int) then (if (wrap64 (x8 + (rd x34 x36))) > x375000 then (spec_ClimbOfRank.l1 k x1 x6 x7 x8 x34 x35 (wrap64 (x36 + 1)) x375000 x375001 x375002) else (if 0 ≤ (wrap64 (x8 + (rd x34 x36))) then (if (wrap64 (x8 + (rd x34 x36))) < (x6.length : Int) then (if x1 < (rd x6 (wrap64 (x8 + (rd x34 x36)))) then (if x7.length < 17592186044416 then (spec_ClimbOfRank.l0 k x1 x6 (x7 ++ [rd x34 x36]) (wrap64 (x8 + (rd x34 x36))) x375000 x375001 x375002) else (none)) else (spec_ClimbOfRank.l1 k (wrap64 (x1 - (rd x6 (wrap64 (x8 + (rd x34 x36)))))) x6 x7 x8 x34 x35 (wrap64 (x36 + 1)) x375000 x375001 x375002)) else (none)) else (none))) else (none)) else (none)) else (spec_ClimbOfRank.l0 k x1 x6 x7 x8 x375000 x375001 x375002)
end
def spec_ClimbOfRank.f (k : Nat) (a0_0 : Int) (l0_1 : List Int) (l0_2 : List Int) (a1 : Int) : Option (List Int × Bool) := (spec_clCounted.f k a0_0 l0_1 l0_2).bind fun t375 => (if t375 = true then (if a1 < 0 then (spec_ClimbOfRank.j0 k a1 true a0_0 l0_1 l0_2) else ((spec_clWays.f k a0_0 l0_1 l0_2).bind fun t376 => (if 0 < (t376.length : Int) then (spec_ClimbOfRank.j0 k a1 (decide (a1 ≥ (rd t376 0))) a0_0 l0_1 l0_2) else (none)))) else (spec_ClimbOfRank.j0 k a1 true a0_0 l0_1 l0_2))
theorem spec_ClimbOfRank.mono_l : ∀ k, (∀ y0 y1 y2 y3 y4, LeO (spec_ClimbOfRank.j0 k y0 y1 y2 y3 y4) (spec_ClimbOfRank.j0 (k + 1) y0 y1 y2 y3 y4)) ∧ (∀ y0 y1 y2 y3 y4 y5 y6, LeO (spec_ClimbOfRank.l0 k y0 y1 y2 y3 y4 y5 y6) (spec_ClimbOfRank.l0 (k + 1) y0 y1 y2 y3 y4 y5 y6)) ∧ (∀ y0 y1 y2 y3 y4 y5 y6 y7 y8 y9, LeO (spec_ClimbOfRank.l1 k y0 y1 y2 y3 y4 y5 y6 y7 y8 y9) (spec_ClimbOfRank.l1 (k + 1) y0 y1 y2 y3 y4 y5 y6 y7 y8 y9))
  | 0 => ⟨fun _ _ _ _ _ r h => by simp [spec_ClimbOfRank.j0] at h, fun _ _ _ _ _ _ _ r h => by simp [spec_ClimbOfRank.l0] at h, fun _ _ _ _ _ _ _ _ _ _ r h => by simp [spec_ClimbOfRank.l1] at h⟩
  | k + 1 => by
    obtain ⟨ih0, ih1, ih2⟩ := spec_ClimbOfRank.mono_l k
    refine ⟨?_, ?_, ?_⟩
    · intro y0 y1 y2 y3 y4
      unfold spec_ClimbOfRank.j0
      repeat' first
      | (with_reducible exact ih0 _ _ _ _ _)
      | (with_reducible exact ih1 _ _ _ _ _ _ _)
      | (with_reducible exact ih2 _ _ _ _ _ _ _ _ _ _)
      | (with_reducible exact spec_clCounted.mono _ _ _ _)
      | (with_reducible exact spec_clWays.mono _ _ _ _)
      | (with_reducible exact LeO.refl _)
      | (with_reducible exact LeO.none _)
      | (with_reducible refine LeO.ite ?_ ?_)
      | (with_reducible refine LeO.bind ?_ (fun _ => ?_))
      | exact ih0 _ _ _ _ _
      | exact ih1 _ _ _ _ _ _ _
      | exact ih2 _ _ _ _ _ _ _ _ _ _
      | exact spec_clCounted.mono _ _ _ _
      | exact spec_clWays.mono _ _ _ _
      | exact LeO.none _
      | refine LeO.ite ?_ ?_
      | refine LeO.bind ?_ (fun _ => ?_)
    · intro y0 y1 y2 y3 y4 y5 y6
      unfold spec_ClimbOfRank.l0
      repeat' first
      | (with_reducible exact ih0 _ _ _ _ _)
      | (with_reducible exact ih1 _ _ _ _ _ _ _)
      | (with_reducible exact ih2 _ _ _ _ _ _ _ _ _ _)
      | (with_reducible exact spec_clCounted.mono _ _ _ _)
      | (with_reducible exact spec_clWays.mono _ _ _ _)
      | (with_reducible exact LeO.refl _)
      | (with_reducible exact LeO.none _)
      | (with_reducible refine LeO.ite ?_ ?_)
      | (with_reducible refine LeO.bind ?_ (fun _ => ?_))
      | exact ih0 _ _ _ _ _
      | exact ih1 _ _ _ _ _ _ _
      | exact ih2 _ _ _ _ _ _ _ _ _ _
      | exact spec_clCounted.mono _ _ _ _
      | exact spec_clWays.mono _ _ _ _
      | exact LeO.none _
      | refine LeO.ite ?_ ?_
      | refine LeO.bind ?_ (fun _ => ?_)
    · intro y0 y1 y2 y3 y4 y5 y6 y7 y8 y9
      unfold spec_ClimbOfRank.l1
      repeat' first
      | (with_reducible exact ih0 _ _ _ _ _)
      | (with_reducible exact ih1 _ _ _ _ _ _ _)
      | (with_reducible exact ih2 _ _ _ _ _ _ _ _ _ _)
      | (with_reducible exact spec_clCounted.mono _ _ _ _)
      | (with_reducible exact spec_clWays.mono _ _ _ _)
      | (with_reducible exact LeO.refl _)
      | (with_reducible exact LeO.none _)
      | (with_reducible refine LeO.ite ?_ ?_)
      | (with_reducible refine LeO.bind ?_ (fun _ => ?_))
      | exact ih0 _ _ _ _ _
      | exact ih1 _ _ _ _ _ _ _
      | exact ih2 _ _ _ _ _ _ _ _ _ _
      | exact spec_clCounted.mono _ _ _ _
      | exact spec_clWays.mono _ _ _ _
      | exact LeO.none _
      | refine LeO.ite ?_ ?_
      | refine LeO.bind ?_ (fun _ => ?_)
theorem spec_ClimbOfRank.mono : ∀ a0 a1 a2 a3 k, LeO (spec_ClimbOfRank.f k a0 a1 a2 a3) (spec_ClimbOfRank.f (k + 1) a0 a1 a2 a3) := by
  intro a0 a1 a2 a3 k
  obtain ⟨ih0, ih1, ih2⟩ := spec_ClimbOfRank.mono_l k
  unfold spec_ClimbOfRank.f
  repeat' first
      | (with_reducible exact ih0 _ _ _ _ _)
      | (with_reducible exact ih1 _ _ _ _ _ _ _)
      | (with_reducible exact ih2 _ _ _ _ _ _ _ _ _ _)
      | (with_reducible exact spec_clCounted.mono _ _ _ _)
      | (with_reducible exact spec_clWays.mono _ _ _ _)
      | (with_reducible exact LeO.refl _)
      | (with_reducible exact LeO.none _)
      | (with_reducible refine LeO.ite ?_ ?_)
      | (with_reducible refine LeO.bind ?_ (fun _ => ?_))
      | exact ih0 _ _ _ _ _
      | exact ih1 _ _ _ _ _ _ _
      | exact ih2 _ _ _ _ _ _ _ _ _ _
      | exact spec_clCounted.mono _ _ _ _
      | exact spec_clWays.mono _ _ _ _
      | exact LeO.none _
      | refine LeO.ite ?_ ?_
      | refine LeO.bind ?_ (fun _ => ?_)

/-! ### impl_CountClimbs: function 15 -/
def impl_CountClimbs.f (k : Nat) (a0_0 : Int) (l0_1 : List Int) (l0_2 : List Int) : Option (Int × Bool) := (impl_counted.f k a0_0 l0_1 l0_2).bind fun bt389 => (if bt389.2 = true then (if 0 < (bt389.1.length : Int) then (some (rd bt389.1 0, true)) else (none)) else (some (0, false)))
theorem impl_CountClimbs.mono : ∀ a0 a1 a2 k, LeO (impl_CountClimbs.f k a0 a1 a2) (impl_CountClimbs.f (k + 1) a0 a1 a2) := by
  intro a0 a1 a2 k
  unfold impl_CountClimbs.f
  repeat' first
      | (with_reducible exact impl_counted.mono _ _ _ _)
      | (with_reducible exact LeO.refl _)
      | (with_reducible exact LeO.none _)
      | (with_reducible refine LeO.ite ?_ ?_)
      | (with_reducible refine LeO.bind ?_ (fun _ => ?_))
      | exact impl_counted.mono _ _ _ _
      | exact LeO.none _
      | refine LeO.ite ?_ ?_
      | refine LeO.bind ?_ (fun _ => ?_)

/-! ### spec_CountClimbs: function 16 -/
def spec_CountClimbs.f (k : Nat) (a0_0 : Int) (l0_1 : List Int) (l0_2 : List Int) : Option (Int × Bool) := (spec_clCounted.f k a0_0 l0_1 l0_2).bind fun t395 => (if t395 = true then ((spec_clWays.f k a0_0 l0_1 l0_2).bind fun t396 => (if 0 < (t396.length : Int) then (some (rd t396 0, true)) else (none))) else (some (0, false)))
theorem spec_CountClimbs.mono : ∀ a0 a1 a2 k, LeO (spec_CountClimbs.f k a0 a1 a2) (spec_CountClimbs.f (k + 1) a0 a1 a2) := by
  intro a0 a1 a2 k
  unfold spec_CountClimbs.f
  repeat' first
      | (with_reducible exact spec_clCounted.mono _ _ _ _)
      | (with_reducible exact spec_clWays.mono _ _ _ _)
      | (with_reducible exact LeO.refl _)
      | (with_reducible exact LeO.none _)
      | (with_reducible refine LeO.ite ?_ ?_)
      | (with_reducible refine LeO.bind ?_ (fun _ => ?_))
      | exact spec_clCounted.mono _ _ _ _
      | exact spec_clWays.mono _ _ _ _
      | exact LeO.none _
      | refine LeO.ite ?_ ?_
      | refine LeO.bind ?_ (fun _ => ?_)

/-! ### impl_FirstClimb: function 17 -/
def impl_FirstClimb.f (k : Nat) (a0_0 : Int) (l0_1 : List Int) (l0_2 : List Int) : Option (List Int × Bool) := (impl_AreStairs.f k a0_0 l0_1 l0_2).bind fun t401 => (if t401 = true then ((impl_Stairs_up.f k a0_0 l0_1 l0_2).bind fun t402 => (if 0 < (t402.length : Int) then (if (rd t402 0) = 0 then (some (([] : List Int), false)) else ((impl_Stairs_ofRank.f k a0_0 l0_1 l0_2 t402 0).bind fun t406 => (some (t406, true)))) else (none))) else (some (([] : List Int), false)))
theorem impl_FirstClimb.mono : ∀ a0 a1 a2 k, LeO (impl_FirstClimb.f k a0 a1 a2) (impl_FirstClimb.f (k + 1) a0 a1 a2) := by
  intro a0 a1 a2 k
  unfold impl_FirstClimb.f
  repeat' first
      | (with_reducible exact impl_AreStairs.mono _ _ _ _)
      | (with_reducible exact impl_Stairs_ofRank.mono _ _ _ _ _ _)
      | (with_reducible exact impl_Stairs_up.mono _ _ _ _)
      | (with_reducible exact LeO.refl _)
      | (with_reducible exact LeO.none _)
      | (with_reducible refine LeO.ite ?_ ?_)
      | (with_reducible refine LeO.bind ?_ (fun _ => ?_))
      | exact impl_AreStairs.mono _ _ _ _
      | exact impl_Stairs_ofRank.mono _ _ _ _ _ _
      | exact impl_Stairs_up.mono _ _ _ _
      | exact LeO.none _
      | refine LeO.ite ?_ ?_
      | refine LeO.bind ?_ (fun _ => ?_)

/-! ### spec_FirstClimb: function 18 -/
mutual
def spec_FirstClimb.j0 : Nat → Bool → Int → List Int → List Int → Option (List Int × Bool)
  | 0, _, _, _, _ => none
  | k + 1, x18, x410000, x410001, x410002 => if x18 = true then (some (([] : List Int), false)) else ((spec_clWays.f k x410000 x410001 x410002).bind fun t415 => (spec_FirstClimb.l0 k t415 ([] : List Int) 0 x410000 x410001 x410002))
def spec_FirstClimb.l0 : Nat → List Int → List Int → Int → Int → List Int → List Int → Option (List Int × Bool)
  | 0, _, _, _, _, _, _ => none
  | k + 1, x4, x5, x6, x410000, x410001, x410002 => if x6 < x410000 then (spec_FirstClimb.l1 k x4 x5 x6 x410001 (x410001.length : Int) 0 x410000 x410001 x410002) else (some (x5, true))
def spec_FirstClimb.l1 : Nat → List Int → List Int → Int → List Int → Int → Int → Int → List Int → List Int → Option (List Int × Bool)
  | 0, _, _, _, _, _, _, _, _, _ => none
  | k + 1, x4, x5, x6, x26, x27, x28, x410000, x410001, x410002 => if x28 < x27 then (if 0 ≤ x28 then (if x28 < (x26.length : Int) then (if (wrap64 (x6 + (rd x26 x28))) ≤ x410000 then (if 0 ≤ (wrap64 (x6 + (rd x26 x28))) then (if (wrap64 (x6 + (rd x26 x28))) < (x4.length : Int) then (if (rd x4 (wrap64 (x6 + (rd x26 x28)))) > 0 then (if x5.length < 17592186044416 then (spec_FirstClimb.l0 k x4 (x5 ++ [rd x26 x28]) (wrap64 (x6 + (rd x26 x28))) x410000 x410001 x410002) else (none)) else (spec_FirstClimb.l1 k x4 x5 x6 x26 x27 (wrap64 (x28 + 1)) x410000 x410001 x410002)) else (none)) else (none)) else (spec_FirstClimb.l1 k x4 x5 x6 x26 x27 (wrap64 (x28 + 1)) x410000 x410001 x410002)) else (none)) else (none)) else (spec_FirstClimb.l0 k x4 x5 x6 x410000 x410001 x410002)
end
def spec_FirstClimb.f (k : Nat) (a0_0 : Int) (l0_1 : List Int) (l0_2 : List Int) : Option (List Int × Bool) := (spec_clGood.f k a0_0 l0_1 l0_2).bind fun t410 => (if t410 = true then ((spec_clWays.f k a0_0 l0_1 l0_2).bind fun t411 => (if 0 < (t411.length : Int) then (spec_FirstClimb.j0 k ((rd t411 0) == 0) a0_0 l0_1 l0_2) else (none))) else (spec_FirstClimb.j0 k true a0_0 l0_1 l0_2))
theorem spec_FirstClimb.mono_l : ∀ k, (∀ y0 y1 y2 y3, LeO (spec_FirstClimb.j0 k y0 y1 y2 y3) (spec_FirstClimb.j0 (k + 1) y0 y1 y2 y3)) ∧ (∀ y0 y1 y2 y3 y4 y5, LeO (spec_FirstClimb.l0 k y0 y1 y2 y3 y4 y5) (spec_FirstClimb.l0 (k + 1) y0 y1 y2 y3 y4 y5)) ∧ (∀ y0 y1 y2 y3 y4 y5 y6 y7 y8, LeO (spec_FirstClimb.l1 k y0 y1 y2 y3 y4 y5 y6 y7 y8) (spec_FirstClimb.l1 (k + 1) y0 y1 y2 y3 y4 y5 y6 y7 y8))
  | 0 => ⟨fun _ _ _ _ r h => by simp [spec_FirstClimb.j0] at h, fun _ _ _ _ _ _ r h => by simp [spec_FirstClimb.l0] at h, fun _ _ _ _ _ _ _ _ _ r h => by simp [spec_FirstClimb.l1] at h⟩
  | k + 1 => by
    obtain ⟨ih0, ih1, ih2⟩ := spec_FirstClimb.mono_l k
    refine ⟨?_, ?_, ?_⟩
    · intro y0 y1 y2 y3
      unfold spec_FirstClimb.j0
      repeat' first
      | (with_reducible exact ih0 _ _ _ _)
      | (with_reducible exact ih1 _ _ _ _ _ _)
      | (with_reducible exact ih2 _ _ _ _ _ _ _ _ _)
      | (with_reducible exact spec_clGood.mono _ _ _ _)
      | (with_reducible exact spec_clWays.mono _ _ _ _)
      | (with_reducible exact LeO.refl _)
      | (with_reducible exact LeO.none _)
      | (with_reducible refine LeO.ite ?_ ?_)
      | (with_reducible refine LeO.bind ?_ (fun _ => ?_))
      | exact ih0 _ _ _ _
      | exact ih1 _ _ _ _ _ _
      | exact ih2 _ _ _ _ _ _ _ _ _
      | exact spec_clGood.mono _ _ _ _
      | exact spec_clWays.mono _ _ _ _
      | exact LeO.none _
      | refine LeO.ite ?_ ?_
      | refine LeO.bind ?_ (fun _ => ?_)
    · intro y0 y1 y2 y3 y4 y5
      unfold spec_FirstClimb.l0
      repeat' first
      | (with_reducible exact ih0 _ _ _ _)
      | (with_reducible exact ih1 _ _ _ _ _ _)
      | (with_reducible exact ih2 _ _ _ _ _ _ _ _ _)
      | (with_reducible exact spec_clGood.mono _ _ _ _)
      | (with_reducible exact spec_clWays.mono _ _ _ _)
      | (with_reducible exact LeO.refl _)
      | (with_reducible exact LeO.none _)
      | (with_reducible refine LeO.ite ?_ ?_)
      | (with_reducible refine LeO.bind ?_ (fun _ => ?_))
      | exact ih0 _ _ _ _
      | exact ih1 _ _ _ _ _ _
      | exact ih2 _ _ _ _ _ _ _ _ _
      | exact spec_clGood.mono _ _ _ _
      | exact spec_clWays.mono _ _ _ _
      | exact LeO.none _
      | refine LeO.ite ?_ ?_
      | refine LeO.bind ?_ (fun _ => ?_)
    · intro y0 y1 y2 y3 y4 y5 y6 y7 y8
      unfold spec_FirstClimb.l1
      repeat' first
      | (with_reducible exact ih0 _ _ _ _)
      | (with_reducible exact ih1 _ _ _ _ _ _)
      | (with_reducible exact ih2 _ _ _ _ _ _ _ _ _)
      | (with_reducible exact spec_clGood.mono _ _ _ _)
      | (with_reducible exact spec_clWays.mono _ _ _ _)
      | (with_reducible exact LeO.refl _)
      | (with_reducible exact LeO.none _)
      | (with_reducible refine LeO.ite ?_ ?_)
      | (with_reducible refine LeO.bind ?_ (fun _ => ?_))
      | exact ih0 _ _ _ _
      | exact ih1 _ _ _ _ _ _
      | exact ih2 _ _ _ _ _ _ _ _ _
      | exact spec_clGood.mono _ _ _ _
      | exact spec_clWays.mono _ _ _ _
      | exact LeO.none _
      | refine LeO.ite ?_ ?_
      | refine LeO.bind ?_ (fun _ => ?_)
theorem spec_FirstClimb.mono : ∀ a0 a1 a2 k, LeO (spec_FirstClimb.f k a0 a1 a2) (spec_FirstClimb.f (k + 1) a0 a1 a2) := by
  intro a0 a1 a2 k
  obtain ⟨ih0, ih1, ih2⟩ := spec_FirstClimb.mono_l k
  unfold spec_FirstClimb.f
  repeat' first
      | (with_reducible exact ih0 _ _ _ _)
      | (with_reducible exact ih1 _ _ _ _ _ _)
      | (with_reducible exact ih2 _ _ _ _ _ _ _ _ _)
      | (with_reducible exact spec_clGood.mono _ _ _ _)
      | (with_reducible exact spec_clWays.mono _ _ _ _)
      | (with_reducible exact LeO.refl _)
      | (with_reducible exact LeO.none _)
      | (with_reducible refine LeO.ite ?_ ?_)
      | (with_reducible refine LeO.bind ?_ (fun _ => ?_))
      | exact ih0 _ _ _ _
      | exact ih1 _ _ _ _ _ _
      | exact ih2 _ _ _ _ _ _ _ _ _
      | exact spec_clGood.mono _ _ _ _
      | exact spec_clWays.mono _ _ _ _
      | exact LeO.none _
      | refine LeO.ite ?_ ?_
      | refine LeO.bind ?_ (fun _ => ?_)

/-! ### impl_Stairs_byStrides: function 65 -/
mutual
def impl_Stairs_byStrides.l0 : Nat → List Int → List Int → Int → Int → Int → List Int → List Int → Option (List Int)
  | 0, _, _, _, _, _, _, _ => none
  | k + 1, x3, x4, x19, x20, x424000, x424001, x424002 => if x20 < x19 then (if 0 ≤ x424000 then (if x424000 < (x4.length : Int) then (if x3.length < 17592186044416 then (if 0 ≤ (wrap64 (x424000 + 1)) then (if (wrap64 (x424000 + 1) : Int).toNat ≤ 35184372088832 then (impl_Stairs_byStrides.l1 k (x3 ++ [rd x4 x424000]) (List.replicate (wrap64 (x424000 + 1) : Int).toNat 0) x19 x20 x4 (x4.length : Int) 0 x424000 x424001 x424002) else (none)) else (none)) else (none)) else (none)) else (none)) else (some x3)
def impl_Stairs_byStrides.l1 : Nat → List Int → List Int → Int → Int → List Int → Int → Int → Int → List Int → List Int → Option (List Int)
  | 0, _, _, _, _, _, _, _, _, _, _ => none
  | k + 1, x3, x5, x19, x20, x34, x35, x36, x424000, x424001, x424002 => if x36 < x35 then (if 0 ≤ x36 then (if x36 < (x34.length : Int) then (impl_Stairs_byStrides.l2 k x3 x5 x36 (rd x34 x36) x19 x20 x34 x35 x36 x424001 (x424001.length : Int) 0 x424000 x424001 x424002) else (none)) else (none)) else (impl_Stairs_byStrides.l0 k x3 x5 x19 (wrap64 (x20 + 1)) x424000 x424001 x424002)
def impl_Stairs_byStrides.l2 : Nat → List Int → List Int → Int → Int → Int → Int → List Int → Int → Int → List Int → Int → Int → Int → List Int → List Int → Option (List Int)
  | 0, _, _, _, _, _, _, _, _, _, _, _, _, _, _, _ => none
  | k + 1, x3, x5, x6, x7, x19, x20, x34, x35, x36, x42, x43, x44, x424000, x424001, x424002 => if x44 < x43 then (if 0 ≤ x44 then (if x44 < (x42.length : Int) then (if (wrap64 (x6 + (rd x42 x44))) ≤ x424000 then ((impl_Stairs_isBroken.f k x424000 x424001 x424002 (wrap64 (x6 + (rd x42 x44)))).bind fun t440 => (if t440 = true then (impl_Stairs_byStrides.l2 k x3 x5 x6 x7 x19 x20 x34 x35 x36 x42 x43 (wrap64 (x44 + 1)) x424000 x424001 x424002) else (if 0 ≤ (wrap64 (x6 + (rd x42 x44))) then (if (wrap64 (x6 + (rd x42 x44))) < (x5.length : Int) then (impl_Stairs_byStrides.l2 k x3 (x5.set ((wrap64 (x6 + (rd x42 x44))) : Int).toNat (wrap64 ((rd x5 (wrap64 (x6 + (rd x42 x44)))) + x7))) x6 x7 x19 x20 x34 x35 x36 x42 x43 (wrap64 (x44 + 1)) x424000 x424001 x424002) else (none)) else (none)))) else (impl_Stairs_byStrides.l2 k x3 x5 x6 x7 x19 x20 x34 x35 x36 x42 x43 (wrap64 (x44 + 1)) x424000 x424001 x424002)) else (none)) else (none)) else (impl_Stairs_byStrides.l1 k x3 x5 x19 x20 x34 x35 (wrap64 (x36 + 1)) x424000 x424001 x424002)
end
def impl_Stairs_byStrides.f (k : Nat) (a0_0 : Int) (l0_1 : List Int) (l0_2 : List Int) : Option (List Int) := if 0 ≤ (wrap64 (a0_0 + 1)) then (if (wrap64 (a0_0 + 1) : Int).toNat ≤ 35184372088832 then ((some (List.replicate (wrap64 (a0_0 + 1) : Int).toNat 0 : List Int)).bind fun y427 => (if 0 < (y427.length : Int) then (impl_Stairs_byStrides.l0 k (([] : List Int)) (y427.set (0 : Int).toNat 1) (wrap64 (a0_0 + 1)) 0 a0_0 l0_1 l0_2) else (none))) else (none)) else (none)
theorem impl_Stairs_byStrides.mono_l : ∀ k, (∀ y0 y1 y2 y3 y4 y5 y6, LeO (impl_Stairs_byStrides.l0 k y0 y1 y2 y3 y4 y5 y6) (impl_Stairs_byStrides.l0 (k + 1) y0 y1 y2 y3 y4 y5 y6)) ∧ (∀ y0 y1 y2 y3 y4 y5 y6 y7 y8 y9, LeO (impl_Stairs_byStrides.l1 k y0 y1 y2 y3 y4 y5 y6 y7 y8 y9) (impl_Stairs_byStrides.l1 (k + 1) y0 y1 y2 y3 y4 y5 y6 y7 y8 y9)) ∧ (∀ y0 y1 y2 y3 y4 y5 y6 y7 y8 y9 y10 y11 y12 y13 y14, LeO (impl_Stairs_byStrides.l2 k y0 y1 y2 y3 y4 y5 y6 y7 y8 y9 y10 y11 y12 y13 y14) (impl_Stairs_byStrides.l2 (k + 1) y0 y1 y2 y3 y4 y5 y6 y7 y8 y9 y10 y11 y12 y13 y14))
  | 0 => ⟨fun _ _ _ _ _ _ _ r h => by simp [impl_Stairs_byStrides.l0] at h, fun _ _ _ _ _ _ _ _ _ _ r h => by simp [impl_Stairs_byStrides.l1] at h, fun _ _ _ _ _ _ _ _ _ _ _ _ _ _ _ r h => by simp [impl_Stairs_byStrides.l2] at h⟩
  | k + 1 => by
    obtain ⟨ih0, ih1, ih2⟩ := impl_Stairs_byStrides.mono_l k
    refine ⟨?_, ?_, ?_⟩
    · intro y0 y1 y2 y3 y4 y5 y6
      unfold impl_Stairs_byStrides.l0
      repeat' first
      | (with_reducible exact ih0 _ _ _ _ _ _ _)
      | (with_reducible exact ih1 _ _ _ _ _ _ _ _ _ _)
      | (with_reducible exact ih2 _ _ _ _ _ _ _ _ _ _ _ _ _ _ _)
      | (with_reducible exact impl_Stairs_isBroken.mono _ _ _ _ _)
      | (with_reducible exact LeO.refl _)
      | (with_reducible exact LeO.none _)
      | (with_reducible refine LeO.ite ?_ ?_)
      | (with_reducible refine LeO.bind ?_ (fun _ => ?_))
      | exact ih0 _ _ _ _ _ _ _
      | exact ih1 _ _ _ _ _ _ _ _ _ _
      | exact ih2 _ _ _ _ _ _ _ _ _ _ _ _ _ _ _
      | exact impl_Stairs_isBroken.mono _ _ _ _ _
      | exact LeO.none _
      | refine LeO.ite ?_ ?_
      | refine LeO.bind ?_ (fun _ => ?_)
    · intro y0 y1 y2 y3 y4 y5 y6 y7 y8 y9
      unfold impl_Stairs_byStrides.l1
      repeat' first
      | (with_reducible exact ih0 _ _ _ _ _ _ _)
      | (with_reducible exact ih1 _ _ _ _ _ _ _ _ _ _)
      | (with_reducible exact ih2 _ _ _ _ _ _ _ _ _ _ _ _ _ _ _)
      | (with_reducible exact impl_Stairs_isBroken.mono _ _ _ _ _)
      | (with_reducible exact LeO.refl _)
      | (with_reducible exact LeO.none _)
      | (with_reducible refine LeO.ite ?_ ?_)
      | (with_reducible refine LeO.bind ?_ (fun _ => ?_))
      | exact ih0 _ _ _ _ _ _ _
      | exact ih1 _ _ _ _ _ _ _ _ _ _
      | exact ih2 _ _ _ _ _ _ _ _ _ _ _ _ _ _ _
      | exact impl_Stairs_isBroken.mono _ _ _ _ _
      | exact LeO.none _
      | refine LeO.ite ?_ ?_
      | refine LeO.bind ?_ (fun _ => ?_)
    · intro y0 y1 y2 y3 y4 y5 y6 y7 y8 y9 y10 y11 y12 y13 y14
      unfold impl_Stairs_byStrides.l2
      repeat' first
      | (with_reducible exact ih0 _ _ _ _ _ _ _)
      | (with_reducible exact ih1 _ _ _ _ _ _ _ _ _ _)
      | (with_reducible exact ih2 _ _ _ _ _ _ _ _ _ _ _ _ _ _ _)
      | (with_reducible exact impl_Stairs_isBroken.mono _ _ _ _ _)
      | (with_reducible exact LeO.refl _)
      | (with_reducible exact LeO.none _)
      | (with_reducible refine LeO.ite ?_ ?_)
      | (with_reducible refine LeO.bind ?_ (fun _ => ?_))
      | exact ih0 _ _ _ _ _ _ _
      | exact ih1 _ _ _ _ _ _ _ _ _ _
      | exact ih2 _ _ _ _ _ _ _ _ _ _ _ _ _ _ _
      | exact impl_Stairs_isBroken.mono _ _ _ _ _
      | exact LeO.none _
      | refine LeO.ite ?_ ?_
      | refine LeO.bind ?_ (fun _ => ?_)
theorem impl_Stairs_byStrides.mono : ∀ a0 a1 a2 k, LeO (impl_Stairs_byStrides.f k a0 a1 a2) (impl_Stairs_byStrides.f (k + 1) a0 a1 a2) := by
  intro a0 a1 a2 k
  obtain ⟨ih0, ih1, ih2⟩ := impl_Stairs_byStrides.mono_l k
  unfold impl_Stairs_byStrides.f
  repeat' first
      | (with_reducible exact ih0 _ _ _ _ _ _ _)
      | (with_reducible exact ih1 _ _ _ _ _ _ _ _ _ _)
      | (with_reducible exact ih2 _ _ _ _ _ _ _ _ _ _ _ _ _ _ _)
      | (with_reducible exact impl_Stairs_isBroken.mono _ _ _ _ _)
      | (with_reducible exact LeO.refl _)
      | (with_reducible exact LeO.none _)
      | (with_reducible refine LeO.ite ?_ ?_)
      | (with_reducible refine LeO.bind ?_ (fun _ => ?_))
      | exact ih0 _ _ _ _ _ _ _
      | exact ih1 _ _ _ _ _ _ _ _ _ _
      | exact ih2 _ _ _ _ _ _ _ _ _ _ _ _ _ _ _
      | exact impl_Stairs_isBroken.mono _ _ _ _ _
      | exact LeO.none _
      | refine LeO.ite ?_ ?_
      | refine LeO.bind ?_ (fun _ => ?_)

def impl_FewestStrides.of (l : List Int) : Int × Bool := match l.findIdx? (fun n => decide (n > 0)) with
  | some i => ((i : Int), true)
  | none => (0, false)
def impl_FewestStrides.f (k : Nat) (a0_0 : Int) (l0_1 : List Int) (l0_2 : List Int) : Option (Int × Bool) := (impl_AreStairs.f k a0_0 l0_1 l0_2).bind fun t => (if t = true then ((impl_Stairs_byStrides.f k a0_0 l0_1 l0_2).bind fun l => (some (impl_FewestStrides.of l))) else (some (0, false)))
theorem impl_FewestStrides.mono : ∀ a0 a1 a2 k, LeO (impl_FewestStrides.f k a0 a1 a2) (impl_FewestStrides.f (k + 1) a0 a1 a2) := by
  intro a0 a1 a2 k
  unfold impl_FewestStrides.f
  refine LeO.bind (impl_AreStairs.mono _ _ _ _) (fun _ => LeO.ite (LeO.bind (impl_Stairs_byStrides.mono _ _ _ _) (fun _ => LeO.refl _)) (LeO.refl _))

/-! ### spec_clLeft: function 67 -/
mutual
def spec_clLeft.l0 : Nat → Bool → List Int → Int → Int → List Int → List Int → Option (List Int)
  | 0, _, _, _, _, _, _ => none
  | k + 1, x1, x5, x6, x444000, x444001, x444002 => if x6 ≥ 0 then (if 0 ≤ x6 then (if x6 < (x5.length : Int) then ((some (x5.set (x6 : Int).toNat (-1) : List Int)).bind fun y447 => ((spec_clStands.f k x444000 x444001 x444002 x6).bind fun t448 => (if t448 = true then (spec_clLeft.l1 k x1 y447 x6 x444001 (x444001.length : Int) 0 x444000 x444001 x444002) else (spec_clLeft.l0 k x1 y447 (wrap64 (x6 - 1)) x444000 x444001 x444002)))) else (none)) else (none)) else (some x5)
def spec_clLeft.l1 : Nat → Bool → List Int → Int → List Int → Int → Int → Int → List Int → List Int → Option (List Int)
  | 0, _, _, _, _, _, _, _, _, _ => none
  | k + 1, x1, x5, x6, x29, x30, x31, x444000, x444001, x444002 => if x31 < x30 then (if 0 ≤ x31 then (if x31 < (x29.length : Int) then (if (wrap64 (x6 + (rd x29 x31))) > x444000 then (spec_clLeft.j2 k x1 x5 x6 (rd x29 x31) x29 x30 x31 true x444000 x444001 x444002) else (if 0 ≤ (wrap64 (x6 + (rd x29 x31))) then (if (wrap64 (x6 + (rd x29 x31))) < (x5.length : Int) then (spec_clLeft.j2 k x1 x5 x6 (rd x29 x31) x29 x30 x31 (decide ((rd x5 (wrap64 (x6 + (rd x29 x31)))) < 0)) x444000 x444001 x444002) else (none)) else (none))) else (none)) else (none)) else (spec_clLeft.l0 k x1 x5 (wrap64 (x6 - 1)) x444000 x444001 x444002)
def spec_clLeft.j2 : Nat → Bool → List Int → Int → Int → List Int → Int → Int → Bool → Int → List Int → List Int → Option (List Int)
  | 0, _, _, _, _, _, _, _, _, _, _, _ => none
  | k + 1, x1, x5, x6, x8, x29, x30, x31, x49, x444000, x444001, x444002 => if x49 = true then (spec_clLeft.l1 k x1 x5 x6 x29 x30 (wrap64 (x31 + 1)) x444000 x444001 x444002) else (if 0 ≤ (wrap64 (x6 + x8)) then (if (wrap64 (x6 + x8)) < (x5.length : Int) then (if 0 ≤ x6 then (if x6 < (x5.length : Int) then (if (rd x5 x6) < 0 then (spec_clLeft.l1 k x1 (x5.set (x6 : Int).toNat (wrap64 ((rd x5 (wrap64 (x6 + x8))) + 1))) x6 x29 x30 (wrap64 (x31 + 1)) x444000 x444001 x444002) else (if x1 = true then (if (wrap64 ((rd x5 (wrap64 (x6 + x8))) + 1)) > (rd x5 x6) then (spec_clLeft.l1 k x1 (x5.set (x6 : Int).toNat (wrap64 ((rd x5 (wrap64 (x6 + x8))) + 1))) x6 x29 x30 (wrap64 (x31 + 1)) x444000 x444001 x444002) else (spec_clLeft.l1 k x1 x5 x6 x29 x30 (wrap64 (x31 + 1)) x444000 x444001 x444002)) else (if (wrap64 ((rd x5 (wrap64 (x6 + x8))) + 1)) < (rd x5 x6) then (spec_clLeft.l1 k x1 (x5.set (x6 : Int).toNat (wrap64 ((rd x5 (wrap64 (x6 + x8))) + 1))) x6 x29 x30 (wrap64 (x31 + 1)) x444000 x444001 x444002) else (spec_clLeft.l1 k x1 x5 x6 x29 x30 (wrap64 (x31 + 1)) x444000 x444001 x444002)))) else (none)) else (none)) else (none)) else (none))
end
def spec_clLeft.f (k : Nat) (a0_0 : Int) (l0_1 : List Int) (l0_2 : List Int) (a1 : Bool) : Option (List Int) := if 0 ≤ (wrap64 (a0_0 + 1)) then (if (wrap64 (a0_0 + 1) : Int).toNat ≤ 35184372088832 then (spec_clLeft.l0 k a1 (List.replicate (wrap64 (a0_0 + 1) : Int).toNat 0) (wrap64 (a0_0 - 1)) a0_0 l0_1 l0_2) else (none)) else (none)
theorem spec_clLeft.mono_l : ∀ k, (∀ y0 y1 y2 y3 y4 y5, LeO (spec_clLeft.l0 k y0 y1 y2 y3 y4 y5) (spec_clLeft.l0 (k + 1) y0 y1 y2 y3 y4 y5)) ∧ (∀ y0 y1 y2 y3 y4 y5 y6 y7 y8, LeO (spec_clLeft.l1 k y0 y1 y2 y3 y4 y5 y6 y7 y8) (spec_clLeft.l1 (k + 1) y0 y1 y2 y3 y4 y5 y6 y7 y8)) ∧ (∀ y0 y1 y2 y3 y4 y5 y6 y7 y8 y9 y10, LeO (spec_clLeft.j2 k y0 y1 y2 y3 y4 y5 y6 y7 y8 y9 y10) (spec_clLeft.j2 (k + 1) y0 y1 y2 y3 y4 y5 y6 y7 y8 y9 y10))
  | 0 => ⟨fun _ _ _ _ _ _ r h => by simp [spec_clLeft.l0] at h, fun _ _ _ _ _ _ _ _ _ r h => by simp [spec_clLeft.l1] at h, fun _ _ _ _ _ _ _ _ _ _ _ r h => by simp [spec_clLeft.j2] at h⟩
  | k + 1 => by
    obtain ⟨ih0, ih1, ih2⟩ := spec_clLeft.mono_l k
    refine ⟨?_, ?_, ?_⟩
    · intro y0 y1 y2 y3 y4 y5
      unfold spec_clLeft.l0
      repeat' first
      | (with_reducible exact ih0 _ _ _ _ _ _)
      | (with_reducible exact ih1 _ _ _ _ _ _ _ _ _)
      | (with_reducible exact ih2 _ _ _ _ _ _ _ _ _ _ _)
      | (with_reducible exact spec_clStands.mono _ _ _ _ _)
      | (with_reducible exact LeO.refl _)
      | (with_reducible exact LeO.none _)
      | (with_reducible refine LeO.ite ?_ ?_)
      | (with_reducible refine LeO.bind ?_ (fun _ => ?_))
      | exact ih0 _ _ _ _ _ _
      | exact ih1 _ _ _ _ _ _ _ _ _
      | exact ih2 _ _ _ _ _ _ _ _ _ _ _
      | exact spec_clStands.mono _ _ _ _ _
      | exact LeO.none _
      | refine LeO.ite ?_ ?_
      | refine LeO.bind ?_ (fun _ => ?_)
    · intro y0 y1 y2 y3 y4 y5 y6 y7 y8
      unfold spec_clLeft.l1
      repeat' first
      | (with_reducible exact ih0 _ _ _ _ _ _)
      | (with_reducible exact ih1 _ _ _ _ _ _ _ _ _)
      | (with_reducible exact ih2 _ _ _ _ _ _ _ _ _ _ _)
      | (with_reducible exact spec_clStands.mono _ _ _ _ _)
      | (with_reducible exact LeO.refl _)
      | (with_reducible exact LeO.none _)
      | (with_reducible refine LeO.ite ?_ ?_)
      | (with_reducible refine LeO.bind ?_ (fun _ => ?_))
      | exact ih0 _ _ _ _ _ _
      | exact ih1 _ _ _ _ _ _ _ _ _
      | exact ih2 _ _ _ _ _ _ _ _ _ _ _
      | exact spec_clStands.mono _ _ _ _ _
      | exact LeO.none _
      | refine LeO.ite ?_ ?_
      | refine LeO.bind ?_ (fun _ => ?_)
    · intro y0 y1 y2 y3 y4 y5 y6 y7 y8 y9 y10
      unfold spec_clLeft.j2
      repeat' first
      | (with_reducible exact ih0 _ _ _ _ _ _)
      | (with_reducible exact ih1 _ _ _ _ _ _ _ _ _)
      | (with_reducible exact ih2 _ _ _ _ _ _ _ _ _ _ _)
      | (with_reducible exact spec_clStands.mono _ _ _ _ _)
      | (with_reducible exact LeO.refl _)
      | (with_reducible exact LeO.none _)
      | (with_reducible refine LeO.ite ?_ ?_)
      | (with_reducible refine LeO.bind ?_ (fun _ => ?_))
      | exact ih0 _ _ _ _ _ _
      | exact ih1 _ _ _ _ _ _ _ _ _
      | exact ih2 _ _ _ _ _ _ _ _ _ _ _
      | exact spec_clStands.mono _ _ _ _ _
      | exact LeO.none _
      | refine LeO.ite ?_ ?_
      | refine LeO.bind ?_ (fun _ => ?_)
theorem spec_clLeft.mono : ∀ a0 a1 a2 a3 k, LeO (spec_clLeft.f k a0 a1 a2 a3) (spec_clLeft.f (k + 1) a0 a1 a2 a3) := by
  intro a0 a1 a2 a3 k
  obtain ⟨ih0, ih1, ih2⟩ := spec_clLeft.mono_l k
  unfold spec_clLeft.f
  repeat' first
      | (with_reducible exact ih0 _ _ _ _ _ _)
      | (with_reducible exact ih1 _ _ _ _ _ _ _ _ _)
      | (with_reducible exact ih2 _ _ _ _ _ _ _ _ _ _ _)
      | (with_reducible exact spec_clStands.mono _ _ _ _ _)
      | (with_reducible exact LeO.refl _)
      | (with_reducible exact LeO.none _)
      | (with_reducible refine LeO.ite ?_ ?_)
      | (with_reducible refine LeO.bind ?_ (fun _ => ?_))
      | exact ih0 _ _ _ _ _ _
      | exact ih1 _ _ _ _ _ _ _ _ _
      | exact ih2 _ _ _ _ _ _ _ _ _ _ _
      | exact spec_clStands.mono _ _ _ _ _
      | exact LeO.none _
      | refine LeO.ite ?_ ?_
      | refine LeO.bind ?_ (fun _ => ?_)

/-! ### spec_FewestStrides: function 20 -/
def spec_FewestStrides.f (k : Nat) (a0_0 : Int) (l0_1 : List Int) (l0_2 : List Int) : Option (Int × Bool) := (spec_clGood.f k a0_0 l0_1 l0_2).bind fun t459 => (if t459 = true then ((spec_clLeft.f k a0_0 l0_1 l0_2 false).bind fun t460 => (if 0 < (t460.length : Int) then (if (rd t460 0) < 0 then (some (0, false)) else ((spec_clLeft.f k a0_0 l0_1 l0_2 false).bind fun t464 => (if 0 < (t464.length : Int) then (some (rd t464 0, true)) else (none)))) else (none))) else (some (0, false)))
theorem spec_FewestStrides.mono : ∀ a0 a1 a2 k, LeO (spec_FewestStrides.f k a0 a1 a2) (spec_FewestStrides.f (k + 1) a0 a1 a2) := by
  intro a0 a1 a2 k
  unfold spec_FewestStrides.f
  repeat' first
      | (with_reducible exact spec_clGood.mono _ _ _ _)
      | (with_reducible exact spec_clLeft.mono _ _ _ _ _)
      | (with_reducible exact LeO.refl _)
      | (with_reducible exact LeO.none _)
      | (with_reducible refine LeO.ite ?_ ?_)
      | (with_reducible refine LeO.bind ?_ (fun _ => ?_))
      | exact spec_clGood.mono _ _ _ _
      | exact spec_clLeft.mono _ _ _ _ _
      | exact LeO.none _
      | refine LeO.ite ?_ ?_
      | refine LeO.bind ?_ (fun _ => ?_)

/-! ### impl_MostStrides: function 21 -/
def impl_MostStrides.l0 : Nat → Int → List Int → Int → Int → Option (Int × Bool)
  | 0, _, _, _, _ => none
  | k + 1, x4, x11, x12, x13 => if x13 < x12 then (if 0 ≤ x13 then (if x13 < (x11.length : Int) then (if (rd x11 x13) > 0 then (impl_MostStrides.l0 k x13 x11 x12 (wrap64 (x13 + 1))) else (impl_MostStrides.l0 k x4 x11 x12 (wrap64 (x13 + 1)))) else (none)) else (none)) else (if x4 < 0 then (some (0, false)) else (some (x4, true)))
def impl_MostStrides.f (k : Nat) (a0_0 : Int) (l0_1 : List Int) (l0_2 : List Int) : Option (Int × Bool) := (impl_AreStairs.f k a0_0 l0_1 l0_2).bind fun t469 => (if t469 = true then ((impl_Stairs_byStrides.f k a0_0 l0_1 l0_2).bind fun t470 => (impl_MostStrides.l0 k (-1) t470 (t470.length : Int) 0)) else (some (0, false)))
theorem impl_MostStrides.mono_l : ∀ k, (∀ y0 y1 y2 y3, LeO (impl_MostStrides.l0 k y0 y1 y2 y3) (impl_MostStrides.l0 (k + 1) y0 y1 y2 y3))
  | 0 => fun _ _ _ _ r h => by simp [impl_MostStrides.l0] at h
  | k + 1 => by
    have ih0 := impl_MostStrides.mono_l k
    · intro y0 y1 y2 y3
      unfold impl_MostStrides.l0
      repeat' first
      | (with_reducible exact ih0 _ _ _ _)
      | (with_reducible exact impl_AreStairs.mono _ _ _ _)
      | (with_reducible exact impl_Stairs_byStrides.mono _ _ _ _)
      | (with_reducible exact LeO.refl _)
      | (with_reducible exact LeO.none _)
      | (with_reducible refine LeO.ite ?_ ?_)
      | (with_reducible refine LeO.bind ?_ (fun _ => ?_))
      | exact ih0 _ _ _ _
      | exact impl_AreStairs.mono _ _ _ _
      | exact impl_Stairs_byStrides.mono _ _ _ _
      | exact LeO.none _
      | refine LeO.ite ?_ ?_
      | refine LeO.bind ?_ (fun _ => ?_)
theorem impl_MostStrides.mono : ∀ a0 a1 a2 k, LeO (impl_MostStrides.f k a0 a1 a2) (impl_MostStrides.f (k + 1) a0 a1 a2) := by
  intro a0 a1 a2 k
  have ih0 := impl_MostStrides.mono_l k
  unfold impl_MostStrides.f
  repeat' first
      | (with_reducible exact ih0 _ _ _ _)
      | (with_reducible exact impl_AreStairs.mono _ _ _ _)
      | (with_reducible exact impl_Stairs_byStrides.mono _ _ _ _)
      | (with_reducible exact LeO.refl _)
      | (with_reducible exact LeO.none _)
      | (with_reducible refine LeO.ite ?_ ?_)
      | (with_reducible refine LeO.bind ?_ (fun _ => ?_))
      | exact ih0 _ _ _ _
      | exact impl_AreStairs.mono _ _ _ _
      | exact impl_Stairs_byStrides.mono _ _ _ _
      | exact LeO.none _
      | refine LeO.ite ?_ ?_
      | refine LeO.bind ?_ (fun _ => ?_)

/-! ### spec_MostStrides: function 22 -/
def spec_MostStrides.f (k : Nat) (a0_0 : Int) (l0_1 : List Int) (l0_2 : List Int) : Option (Int × Bool) := (spec_clGood.f k a0_0 l0_1 l0_2).bind fun t475 => (if t475 = true then ((spec_clLeft.f k a0_0 l0_1 l0_2 true).bind fun t476 => (if 0 < (t476.length : Int) then (if (rd t476 0) < 0 then (some (0, false)) else ((spec_clLeft.f k a0_0 l0_1 l0_2 true).bind fun t480 => (if 0 < (t480.length : Int) then (some (rd t480 0, true)) else (none)))) else (none))) else (some (0, false)))
theorem spec_MostStrides.mono : ∀ a0 a1 a2 k, LeO (spec_MostStrides.f k a0 a1 a2) (spec_MostStrides.f (k + 1) a0 a1 a2) := by
  intro a0 a1 a2 k
  unfold spec_MostStrides.f
  repeat' first
      | (with_reducible exact spec_clGood.mono _ _ _ _)
      | (with_reducible exact spec_clLeft.mono _ _ _ _ _)
      | (with_reducible exact LeO.refl _)
      | (with_reducible exact LeO.none _)
      | (with_reducible refine LeO.ite ?_ ?_)
      | (with_reducible refine LeO.bind ?_ (fun _ => ?_))
      | exact spec_clGood.mono _ _ _ _
      | exact spec_clLeft.mono _ _ _ _ _
      | exact LeO.none _
      | refine LeO.ite ?_ ?_
      | refine LeO.bind ?_ (fun _ => ?_)

/-! ### impl_FirstFewest: function 23 -/
mutual
def impl_FirstFewest.l0 : Nat → List Int → Int → Int → List Int → List Int → Option (List Int × Bool)
  | 0, _, _, _, _, _ => none
  | k + 1, x4, x5, x485000, x485001, x485002 => if x5 ≥ 0 then (if 0 ≤ x5 then (if x5 < (x4.length : Int) then (impl_FirstFewest.l1 k (x4.set (x5 : Int).toNat 1000) x5 x485001 (x485001.length : Int) 0 x485000 x485001 x485002) else (none)) else (none)) else (if 0 < (x4.length : Int) then (if (rd x4 0) ≥ 1000 then (some (([] : List Int), false)) else (impl_FirstFewest.l2 k x4 (([] : List Int)) 0 x485000 x485001 x485002)) else (none))
def impl_FirstFewest.l1 : Nat → List Int → Int → List Int → Int → Int → Int → List Int → List Int → Option (List Int × Bool)
  | 0, _, _, _, _, _, _, _, _ => none
  | k + 1, x4, x5, x30, x31, x32, x485000, x485001, x485002 => if x32 < x31 then (if 0 ≤ x32 then (if x32 < (x30.length : Int) then (if (wrap64 (x5 + (rd x30 x32))) ≤ x485000 then ((impl_Stairs_isBroken.f k x485000 x485001 x485002 x5).bind fun t491 => (if t491 = true then (impl_FirstFewest.l1 k x4 x5 x30 x31 (wrap64 (x32 + 1)) x485000 x485001 x485002) else (if 0 ≤ x5 then (if x5 < (x4.length : Int) then (if 0 ≤ (wrap64 (x5 + (rd x30 x32))) then (if (wrap64 (x5 + (rd x30 x32))) < (x4.length : Int) then (impl_FirstFewest.l1 k (x4.set (x5 : Int).toNat (mn (rd x4 x5) (wrap64 ((rd x4 (wrap64 (x5 + (rd x30 x32)))) + 1)))) x5 x30 x31 (wrap64 (x32 + 1)) x485000 x485001 x485002) else (none)) else (none)) else (none)) else (none)))) else (impl_FirstFewest.l1 k x4 x5 x30 x31 (wrap64 (x32 + 1)) x485000 x485001 x485002)) else (none)) else (none)) else (impl_FirstFewest.l0 k x4 (wrap64 (x5 - 1)) x485000 x485001 x485002)
def impl_FirstFewest.l2 : Nat → List Int → List Int → Int → Int → List Int → List Int → Option (List Int × Bool)
  | 0, _, _, _, _, _, _ => none
  | k + 1, x4, x8, x9, x485000, x485001, x485002 => if x9 < x485000 then (impl_FirstFewest.l3 k x4 x8 x9 x485001 (x485001.length : Int) 0 x485000 x485001 x485002) else (some (x8, true))
def impl_FirstFewest.l3 : Nat → List Int → List Int → Int → List Int → Int → Int → Int → List Int → List Int → Option (List Int × Bool)
  | 0, _, _, _, _, _, _, _, _, _ => none
  | k + 1, x4, x8, x9, x74, x75, x76, x485000, x485001, x485002 => if x76 < x75 then (if 0 ≤ x76 then (if x76 < (x74.length : Int) then (if (wrap64 (x9 + (rd x74 x76))) ≤ x485000 then (if 0 ≤ (wrap64 (x9 + (rd x74 x76))) then (if (wrap64 (x9 + (rd x74 x76))) < (x4.length : Int) then (if 0 ≤ x9 then (if x9 < (x4.length : Int) then (if (wrap64 ((rd x4 (wrap64 (x9 + (rd x74 x76)))) + 1)) = (rd x4 x9) then (if x8.length < 17592186044416 then (impl_FirstFewest.l2 k x4 (x8 ++ [rd x74 x76]) (wrap64 (x9 + (rd x74 x76))) x485000 x485001 x485002) else (none)) else (impl_FirstFewest.l3 k x4 x8 x9 x74 x75 (wrap64 (x76 + 1)) x485000 x485001 x485002)) else (none)) else (none)) else (none)) else (none)) else (impl_FirstFewest.l3 k x4 x8 x9 x74 x75 (wrap64 (x76 + 1)) x485000 x485001 x485002)) else (none)) else (none)) else (impl_FirstFewest.l2 k x4 x8 x9 x485000 x485001 x485002)
end
def impl_FirstFewest.f (k : Nat) (a0_0 : Int) (l0_1 : List Int) (l0_2 : List Int) : Option (List Int × Bool) := (impl_AreStairs.f k a0_0 l0_1 l0_2).bind fun t485 => (if t485 = true then (if 0 ≤ (wrap64 (a0_0 + 1)) then (if (wrap64 (a0_0 + 1) : Int).toNat ≤ 35184372088832 then (impl_FirstFewest.l0 k (List.replicate (wrap64 (a0_0 + 1) : Int).toNat 0) (wrap64 (a0_0 - 1)) a0_0 l0_1 l0_2) else (none)) else (none)) else (some (([] : List Int), false)))
theorem impl_FirstFewest.mono_l : ∀ k, (∀ y0 y1 y2 y3 y4, LeO (impl_FirstFewest.l0 k y0 y1 y2 y3 y4) (impl_FirstFewest.l0 (k + 1) y0 y1 y2 y3 y4)) ∧ (∀ y0 y1 y2 y3 y4 y5 y6 y7, LeO (impl_FirstFewest.l1 k y0 y1 y2 y3 y4 y5 y6 y7) (impl_FirstFewest.l1 (k + 1) y0 y1 y2 y3 y4 y5 y6 y7)) ∧ (∀ y0 y1 y2 y3 y4 y5, LeO (impl_FirstFewest.l2 k y0 y1 y2 y3 y4 y5) (impl_FirstFewest.l2 (k + 1) y0 y1 y2 y3 y4 y5)) ∧ (∀ y0 y1 y2 y3 y4 y5 y6 y7 y8, LeO (impl_FirstFewest.l3 k y0 y1 y2 y3 y4 y5 y6 y7 y8) (impl_FirstFewest.l3 (k + 1) y0 y1 y2 y3 y4 y5 y6 y7 y8))
  | 0 => ⟨fun _ _ _ _ _ r h => by simp [impl_FirstFewest.l0] at h, fun _ _ _ _ _ _ _ _ r h => by simp [impl_FirstFewest.l1] at h, fun _ _ _ _ _ _ r h => by simp [impl_FirstFewest.l2] at h, fun _ _ _ _ _ _ _ _ _ r h => by simp [impl_FirstFewest.l3] at h⟩
  | k + 1 => by
    obtain ⟨ih0, ih1, ih2, ih3⟩ := impl_FirstFewest.mono_l k
    refine ⟨?_, ?_, ?_, ?_⟩
    · intro y0 y1 y2 y3 y4
      unfold impl_FirstFewest.l0
      repeat' first
      | (with_reducible exact ih0 _ _ _ _ _)
      | (with_reducible exact ih1 _ _ _ _ _ _ _ _)
      | (with_reducible exact ih2 _ _ _ _ _ _)
      | (with_reducible exact ih3 _ _ _ _ _ _ _ _ _)
      | (with_reducible exact impl_AreStairs.mono _ _ _ _)
      | (with_reducible exact impl_Stairs_isBroken.mono _ _ _ _ _)
      | (with_reducible exact LeO.refl _)
      | (with_reducible exact LeO.none _)
      | (with_reducible refine LeO.ite ?_ ?_)
      | (with_reducible refine LeO.bind ?_ (fun _ => ?_))
      | exact ih0 _ _ _ _ _
      | exact ih1 _ _ _ _ _ _ _ _
      | exact ih2 _ _ _ _ _ _
      | exact ih3 _ _ _ _ _ _ _ _ _
      | exact impl_AreStairs.mono _ _ _ _
      | exact impl_Stairs_isBroken.mono _ _ _ _ _
      | exact LeO.none _
      | refine LeO.ite ?_ ?_
      | refine LeO.bind ?_ (fun _ => ?_)
    · intro y0 y1 y2 y3 y4 y5 y6 y7
      unfold impl_FirstFewest.l1
      repeat' first
      | (with_reducible exact ih0 _ _ _ _ _)
      | (with_reducible exact ih1 _ _ _ _ _ _ _ _)
      | (with_reducible exact ih2 _ _ _ _ _ _)
      | (with_reducible exact ih3 _ _ _ _ _ _ _ _ _)
      | (with_reducible exact impl_AreStairs.mono _ _ _ _)
      | (with_reducible exact impl_Stairs_isBroken.mono _ _ _ _ _)
      | (with_reducible exact LeO.refl _)
      | (with_reducible exact LeO.none _)
      | (with_reducible refine LeO.ite ?_ ?_)
      | (with_reducible refine LeO.bind ?_ (fun _ => ?_))
      | exact ih0 _ _ _ _ _
      | exact ih1 _ _ _ _ _ _ _ _
      | exact ih2 _ _ _ _ _ _
      | exact ih3 _ _ _ _ _ _ _ _ _
      | exact impl_AreStairs.mono _ _ _ _
      | exact impl_Stairs_isBroken.mono _ _ _ _ _
      | exact LeO.none _
      | refine LeO.ite ?_ ?_
      | refine LeO.bind ?_ (fun _ => ?_)
    · intro y0 y1 y2 y3 y4 y5
      unfold impl_FirstFewest.l2
      repeat' first
      | (with_reducible exact ih0 _ _ _ _ _)
      | (with_reducible exact ih1 _ _ _ _ _ _ _ _)
      | (with_reducible exact ih2 _ _ _ _ _ _)
      | (with_reducible exact ih3 _ _ _ _ _ _ _ _ _)
      | (with_reducible exact impl_AreStairs.mono _ _ _ _)
      | (with_reducible exact impl_Stairs_isBroken.mono _ _ _ _ _)
      | (with_reducible exact LeO.refl _)
      | (with_reducible exact LeO.none _)
      | (with_reducible refine LeO.ite ?_ ?_)
      | (with_reducible refine LeO.bind ?_ (fun _ => ?_))
      | exact ih0 _ _ _ _ _
      | exact ih1 _ _ _ _ _ _ _ _
      | exact ih2 _ _ _ _ _ _
      | exact ih3 _ _ _ _ _ _ _ _ _
      | exact impl_AreStairs.mono _ _ _ _
      | exact impl_Stairs_isBroken.mono _ _ _ _ _
      | exact LeO.none _
      | refine LeO.ite ?_ ?_
      | refine LeO.bind ?_ (fun _ => ?_)
    · intro y0 y1 y2 y3 y4 y5 y6 y7 y8
      unfold impl_FirstFewest.l3
      repeat' first
      | (with_reducible exact ih0 _ _ _ _ _)
      | (with_reducible exact ih1 _ _ _ _ _ _ _ _)
      | (with_reducible exact ih2 _ _ _ _ _ _)
      | (with_reducible exact ih3 _ _ _ _ _ _ _ _ _)
      | (with_reducible exact impl_AreStairs.mono _ _ _ _)
      | (with_reducible exact impl_Stairs_isBroken.mono _ _ _ _ _)
      | (with_reducible exact LeO.refl _)
      | (with_reducible exact LeO.none _)
      | (with_reducible refine LeO.ite ?_ ?_)
      | (with_reducible refine LeO.bind ?_ (fun _ => ?_))
      | exact ih0 _ _ _ _ _
      | exact ih1 _ _ _ _ _ _ _ _
      | exact ih2 _ _ _ _ _ _
      | exact ih3 _ _ _ _ _ _ _ _ _
      | exact impl_AreStairs.mono _ _ _ _
      | exact impl_Stairs_isBroken.mono _ _ _ _ _
      | exact LeO.none _
      | refine LeO.ite ?_ ?_
      | refine LeO.bind ?_ (fun _ => ?_)
theorem impl_FirstFewest.mono : ∀ a0 a1 a2 k, LeO (impl_FirstFewest.f k a0 a1 a2) (impl_FirstFewest.f (k + 1) a0 a1 a2) := by
  intro a0 a1 a2 k
  obtain ⟨ih0, ih1, ih2, ih3⟩ := impl_FirstFewest.mono_l k
  unfold impl_FirstFewest.f
  repeat' first
      | (with_reducible exact ih0 _ _ _ _ _)
      | (with_reducible exact ih1 _ _ _ _ _ _ _ _)
      | (with_reducible exact ih2 _ _ _ _ _ _)
      | (with_reducible exact ih3 _ _ _ _ _ _ _ _ _)
      | (with_reducible exact impl_AreStairs.mono _ _ _ _)
      | (with_reducible exact impl_Stairs_isBroken.mono _ _ _ _ _)
      | (with_reducible exact LeO.refl _)
      | (with_reducible exact LeO.none _)
      | (with_reducible refine LeO.ite ?_ ?_)
      | (with_reducible refine LeO.bind ?_ (fun _ => ?_))
      | exact ih0 _ _ _ _ _
      | exact ih1 _ _ _ _ _ _ _ _
      | exact ih2 _ _ _ _ _ _
      | exact ih3 _ _ _ _ _ _ _ _ _
      | exact impl_AreStairs.mono _ _ _ _
      | exact impl_Stairs_isBroken.mono _ _ _ _ _
      | exact LeO.none _
      | refine LeO.ite ?_ ?_
      | refine LeO.bind ?_ (fun _ => ?_)

/-! ### spec_FirstFewest: function 24 -/
mutual
def spec_FirstFewest.l0 : Nat → List Int → List Int → Int → Int → List Int → List Int → Option (List Int × Bool)
  | 0, _, _, _, _, _, _ => none
  | k + 1, x6, x7, x8, x506000, x506001, x506002 => if x8 < x506000 then (spec_FirstFewest.l1 k x6 x7 x8 x506001 (x506001.length : Int) 0 x506000 x506001 x506002) else (some (x7, true))
def spec_FirstFewest.l1 : Nat → List Int → List Int → Int → List Int → Int → Int → Int → List Int → List Int → Option (List Int × Bool)
  | 0, _, _, _, _, _, _, _, _, _ => none
  | k + 1, x6, x7, x8, x25, x26, x27, x506000, x506001, x506002 => if x27 < x26 then (if 0 ≤ x27 then (if x27 < (x25.length : Int) then (if (wrap64 (x8 + (rd x25 x27))) ≤ x506000 then (if 0 ≤ (wrap64 (x8 + (rd x25 x27))) then (if (wrap64 (x8 + (rd x25 x27))) < (x6.length : Int) then (if (rd x6 (wrap64 (x8 + (rd x25 x27)))) ≥ 0 then (if 0 ≤ x8 then (if x8 < (x6.length : Int) then (if (rd x6 (wrap64 (x8 + (rd x25 x27)))) = (wrap64 ((rd x6 x8) - 1)) then (if x7.length < 17592186044416 then (spec_FirstFewest.l0 k x6 (x7 ++ [rd x25 x27]) (wrap64 (x8 + (rd x25 x27))) x506000 x506001 x506002) else (none)) else (spec_FirstFewest.l1 k x6 x7 x8 x25 x26 (wrap64 (x27 + 1)) x506000 x506001 x506002)) else (none)) else (none)) else (spec_FirstFewest.l1 k x6 x7 x8 x25 x26 (wrap64 (x27 + 1)) x506000 x506001 x506002)) else (none)) else (none)) else (spec_FirstFewest.l1 k x6 x7 x8 x25 x26 (wrap64 (x27 + 1)) x506000 x506001 x506002)) else (none)) else (none)) else (spec_FirstFewest.l0 k x6 x7 x8 x506000 x506001 x506002)
end
def spec_FirstFewest.f (k : Nat) (a0_0 : Int) (l0_1 : List Int) (l0_2 : List Int) : Option (List Int × Bool) := (spec_FewestStrides.f k a0_0 l0_1 l0_2).bind fun bt506 => (if bt506.2 = true then ((spec_clLeft.f k a0_0 l0_1 l0_2 false).bind fun t508 => (spec_FirstFewest.l0 k t508 ([] : List Int) 0 a0_0 l0_1 l0_2)) else (some (([] : List Int), false)))
theorem spec_FirstFewest.mono_l : ∀ k, (∀ y0 y1 y2 y3 y4 y5, LeO (spec_FirstFewest.l0 k y0 y1 y2 y3 y4 y5) (spec_FirstFewest.l0 (k + 1) y0 y1 y2 y3 y4 y5)) ∧ (∀ y0 y1 y2 y3 y4 y5 y6 y7 y8, LeO (spec_FirstFewest.l1 k y0 y1 y2 y3 y4 y5 y6 y7 y8) (spec_FirstFewest.l1 (k + 1) y0 y1 y2 y3 y4 y5 y6 y7 y8))
  | 0 => ⟨fun _ _ _ _ _ _ r h => by simp [spec_FirstFewest.l0] at h, fun _ _ _ _ _ _ _ _ _ r h => by simp [spec_FirstFewest.l1] at h⟩
  | k + 1 => by
    obtain ⟨ih0, ih1⟩ := spec_FirstFewest.mono_l k
    refine ⟨?_, ?_⟩
    · intro y0 y1 y2 y3 y4 y5
      unfold spec_FirstFewest.l0
      repeat' first
      | (with_reducible exact ih0 _ _ _ _ _ _)
      | (with_reducible exact ih1 _ _ _ _ _ _ _ _ _)
      | (with_reducible exact spec_FewestStrides.mono _ _ _ _)
      | (with_reducible exact spec_clLeft.mono _ _ _ _ _)
      | (with_reducible exact LeO.refl _)
      | (with_reducible exact LeO.none _)
      | (with_reducible refine LeO.ite ?_ ?_)
      | (with_reducible refine LeO.bind ?_ (fun _ => ?_))
      | exact ih0 _ _ _ _ _ _
      | exact ih1 _ _ _ _ _ _ _ _ _
      | exact spec_FewestStrides.mono _ _ _ _
      | exact spec_clLeft.mono _ _ _ _ _
      | exact LeO.none _
      | refine LeO.ite ?_ ?_
      | refine LeO.bind ?_ (fun _ => ?_)
    · intro y0 y1 y2 y3 y4 y5 y6 y7 y8
      unfold spec_FirstFewest.l1
      repeat' first
      | (with_reducible exact ih0 _ _ _ _ _ _)
      | (with_reducible exact ih1 _ _ _ _ _ _ _ _ _)
      | (with_reducible exact spec_FewestStrides.mono _ _ _ _)
      | (with_reducible exact spec_clLeft.mono _ _ _ _ _)
      | (with_reducible exact LeO.refl _)
      | (with_reducible exact LeO.none _)
      | (with_reducible refine LeO.ite ?_ ?_)
      | (with_reducible refine LeO.bind ?_ (fun _ => ?_))
      | exact ih0 _ _ _ _ _ _
      | exact ih1 _ _ _ _ _ _ _ _ _
      | exact spec_FewestStrides.mono _ _ _ _
      | exact spec_clLeft.mono _ _ _ _ _
      | exact LeO.none _
      | refine LeO.ite ?_ ?_
      | refine LeO.bind ?_ (fun _ => ?_)
theorem spec_FirstFewest.mono : ∀ a0 a1 a2 k, LeO (spec_FirstFewest.f k a0 a1 a2) (spec_FirstFewest.f (k + 1) a0 a1 a2) := by
  intro a0 a1 a2 k
  obtain ⟨ih0, ih1⟩ := spec_FirstFewest.mono_l k
  unfold spec_FirstFewest.f
  repeat' first
      | (with_reducible exact ih0 _ _ _ _ _ _)
      | (with_reducible exact ih1 _ _ _ _ _ _ _ _ _)
      | (with_reducible exact spec_FewestStrides.mono _ _ _ _)
      | (with_reducible exact spec_clLeft.mono _ _ _ _ _)
      | (with_reducible exact LeO.refl _)
      | (with_reducible exact LeO.none _)
      | (with_reducible refine LeO.ite ?_ ?_)
      | (with_reducible refine LeO.bind ?_ (fun _ => ?_))
      | exact ih0 _ _ _ _ _ _
      | exact ih1 _ _ _ _ _ _ _ _ _
      | exact spec_FewestStrides.mono _ _ _ _
      | exact spec_clLeft.mono _ _ _ _ _
      | exact LeO.none _
      | refine LeO.ite ?_ ?_
      | refine LeO.bind ?_ (fun _ => ?_)

/-! ### laws_lSame: function 25 -/
def laws_lSame.l0 : Nat → List Int → List Int → Int → Int → Option (Bool)
  | 0, _, _, _, _ => none
  | k + 1, x0, x1, x12, x13 => if x13 < x12 then (if 0 ≤ x13 then (if x13 < (x0.length : Int) then (if x13 < (x1.length : Int) then (if (rd x0 x13) = (rd x1 x13) then (laws_lSame.l0 k x0 x1 x12 (wrap64 (x13 + 1))) else (some false)) else (none)) else (none)) else (none)) else (some true)
def laws_lSame.f (k : Nat) (l0 : List Int) (l1 : List Int) : Option (Bool) := if (l0.length : Int) = (l1.length : Int) then (laws_lSame.l0 k l0 l1 (l0.length : Int) 0) else (some false)
theorem laws_lSame.mono_l : ∀ k, (∀ y0 y1 y2 y3, LeO (laws_lSame.l0 k y0 y1 y2 y3) (laws_lSame.l0 (k + 1) y0 y1 y2 y3))
  | 0 => fun _ _ _ _ r h => by simp [laws_lSame.l0] at h
  | k + 1 => by
    have ih0 := laws_lSame.mono_l k
    · intro y0 y1 y2 y3
      unfold laws_lSame.l0
      repeat' first
      | (with_reducible exact ih0 _ _ _ _)
      | (with_reducible exact LeO.refl _)
      | (with_reducible exact LeO.none _)
      | (with_reducible refine LeO.ite ?_ ?_)
      | (with_reducible refine LeO.bind ?_ (fun _ => ?_))
      | exact ih0 _ _ _ _
      | exact LeO.none _
      | refine LeO.ite ?_ ?_
      | refine LeO.bind ?_ (fun _ => ?_)
theorem laws_lSame.mono : ∀ a0 a1 k, LeO (laws_lSame.f k a0 a1) (laws_lSame.f (k + 1) a0 a1) := by
  intro a0 a1 k
  have ih0 := laws_lSame.mono_l k
  unfold laws_lSame.f
  repeat' first
      | (with_reducible exact ih0 _ _ _ _)
      | (with_reducible exact LeO.refl _)
      | (with_reducible exact LeO.none _)
      | (with_reducible refine LeO.ite ?_ ?_)
      | (with_reducible refine LeO.bind ?_ (fun _ => ?_))
      | exact ih0 _ _ _ _
      | exact LeO.none _
      | refine LeO.ite ?_ ?_
      | refine LeO.bind ?_ (fun _ => ?_)

/-! ### impl_Stairs_isClimb: function 68 -/
def impl_Stairs_isClimb.l0 : Nat → Int → List Int → Int → Int → Int → List Int → List Int → Option (Bool)
  | 0, _, _, _, _, _, _, _ => none
  | k + 1, x5, x8, x9, x10, x521000, x521001, x521002 => if x10 < x9 then (if 0 ≤ x10 then (if x10 < (x8.length : Int) then ((slices_Contains_int_int.f k x521001 (rd x8 x10)).bind fun t522 => (if t522 = true then (if (wrap64 (x5 + (rd x8 x10))) > x521000 then (some false) else ((impl_Stairs_isBroken.f k x521000 x521001 x521002 (wrap64 (x5 + (rd x8 x10)))).bind fun t523 => (if t523 = true then (some false) else (impl_Stairs_isClimb.l0 k (wrap64 (x5 + (rd x8 x10))) x8 x9 (wrap64 (x10 + 1)) x521000 x521001 x521002)))) else (some false))) else (none)) else (none)) else (some (x5 == x521000))
def impl_Stairs_isClimb.f (k : Nat) (a0_0 : Int) (l0_1 : List Int) (l0_2 : List Int) (l1 : List Int) : Option (Bool) := impl_Stairs_isClimb.l0 k 0 l1 (l1.length : Int) 0 a0_0 l0_1 l0_2
theorem impl_Stairs_isClimb.mono_l : ∀ k, (∀ y0 y1 y2 y3 y4 y5 y6, LeO (impl_Stairs_isClimb.l0 k y0 y1 y2 y3 y4 y5 y6) (impl_Stairs_isClimb.l0 (k + 1) y0 y1 y2 y3 y4 y5 y6))
  | 0 => fun _ _ _ _ _ _ _ r h => by simp [impl_Stairs_isClimb.l0] at h
  | k + 1 => by
    have ih0 := impl_Stairs_isClimb.mono_l k
    · intro y0 y1 y2 y3 y4 y5 y6
      unfold impl_Stairs_isClimb.l0
      repeat' first
      | (with_reducible exact ih0 _ _ _ _ _ _ _)
      | (with_reducible exact impl_Stairs_isBroken.mono _ _ _ _ _)
      | (with_reducible exact slices_Contains_int_int.mono _ _ _)
      | (with_reducible exact LeO.refl _)
      | (with_reducible exact LeO.none _)
      | (with_reducible refine LeO.ite ?_ ?_)
      | (with_reducible refine LeO.bind ?_ (fun _ => ?_))
      | exact ih0 _ _ _ _ _ _ _
      | exact impl_Stairs_isBroken.mono _ _ _ _ _
      | exact slices_Contains_int_int.mono _ _ _
      | exact LeO.none _
      | refine LeO.ite ?_ ?_
      | refine LeO.bind ?_ (fun _ => ?_)
theorem impl_Stairs_isClimb.mono : ∀ a0 a1 a2 a3 k, LeO (impl_Stairs_isClimb.f k a0 a1 a2 a3) (impl_Stairs_isClimb.f (k + 1) a0 a1 a2 a3) := by
  intro a0 a1 a2 a3 k
  have ih0 := impl_Stairs_isClimb.mono_l k
  unfold impl_Stairs_isClimb.f
  repeat' first
      | (with_reducible exact ih0 _ _ _ _ _ _ _)
      | (with_reducible exact impl_Stairs_isBroken.mono _ _ _ _ _)
      | (with_reducible exact slices_Contains_int_int.mono _ _ _)
      | (with_reducible exact LeO.refl _)
      | (with_reducible exact LeO.none _)
      | (with_reducible refine LeO.ite ?_ ?_)
      | (with_reducible refine LeO.bind ?_ (fun _ => ?_))
      | exact ih0 _ _ _ _ _ _ _
      | exact impl_Stairs_isBroken.mono _ _ _ _ _
      | exact slices_Contains_int_int.mono _ _ _
      | exact LeO.none _
      | refine LeO.ite ?_ ?_
      | refine LeO.bind ?_ (fun _ => ?_)

/-! ### impl_IsClimb: function 26 -/
def impl_IsClimb.f (k : Nat) (a0_0 : Int) (l0_1 : List Int) (l0_2 : List Int) (l1 : List Int) : Option (Bool × Bool) := (impl_AreStairs.f k a0_0 l0_1 l0_2).bind fun t525 => (if t525 = true then ((impl_Stairs_isClimb.f k a0_0 l0_1 l0_2 l1).bind fun t526 => (some (t526, true))) else (some (false, false)))
theorem impl_IsClimb.mono : ∀ a0 a1 a2 a3 k, LeO (impl_IsClimb.f k a0 a1 a2 a3) (impl_IsClimb.f (k + 1) a0 a1 a2 a3) := by
  intro a0 a1 a2 a3 k
  unfold impl_IsClimb.f
  repeat' first
      | (with_reducible exact impl_AreStairs.mono _ _ _ _)
      | (with_reducible exact impl_Stairs_isClimb.mono _ _ _ _ _)
      | (with_reducible exact LeO.refl _)
      | (with_reducible exact LeO.none _)
      | (with_reducible refine LeO.ite ?_ ?_)
      | (with_reducible refine LeO.bind ?_ (fun _ => ?_))
      | exact impl_AreStairs.mono _ _ _ _
      | exact impl_Stairs_isClimb.mono _ _ _ _ _
      | exact LeO.none _
      | refine LeO.ite ?_ ?_
      | refine LeO.bind ?_ (fun _ => ?_)

/-! ### impl_RankOfClimb: function 27 -/
mutual
def impl_RankOfClimb.j0 : Nat → List Int → List Int → Bool → Int → List Int → List Int → Option (Int × Bool)
  | 0, _, _, _, _, _, _ => none
  | k + 1, x1, x6, x26, x528000, x528001, x528002 => if x26 = true then (some (0, false)) else (impl_RankOfClimb.l0 k x6 0 0 x1 (x1.length : Int) 0 x528000 x528001 x528002)
def impl_RankOfClimb.l0 : Nat → List Int → Int → Int → List Int → Int → Int → Int → List Int → List Int → Option (Int × Bool)
  | 0, _, _, _, _, _, _, _, _, _ => none
  | k + 1, x6, x8, x9, x27, x28, x29, x528000, x528001, x528002 => if x29 < x28 then (if 0 ≤ x29 then (if x29 < (x27.length : Int) then (impl_RankOfClimb.l1 k x6 x8 x9 (rd x27 x29) x27 x28 x29 x528001 (x528001.length : Int) 0 x528000 x528001 x528002) else (none)) else (none)) else (some (x8, true))
def impl_RankOfClimb.l1 : Nat → List Int → Int → Int → Int → List Int → Int → Int → List Int → Int → Int → Int → List Int → List Int → Option (Int × Bool)
  | 0, _, _, _, _, _, _, _, _, _, _, _, _, _ => none
  | k + 1, x6, x8, x9, x11, x27, x28, x29, x34, x35, x36, x528000, x528001, x528002 => if x36 < x35 then (if 0 ≤ x36 then (if x36 < (x34.length : Int) then (if (rd x34 x36) < x11 then (if (wrap64 (x9 + (rd x34 x36))) ≤ x528000 then (if 0 ≤ (wrap64 (x9 + (rd x34 x36))) then (if (wrap64 (x9 + (rd x34 x36))) < (x6.length : Int) then (impl_RankOfClimb.l1 k x6 (wrap64 (x8 + (rd x6 (wrap64 (x9 + (rd x34 x36)))))) x9 x11 x27 x28 x29 x34 x35 (wrap64 (x36 + 1)) x528000 x528001 x528002) else (none)) else (none)) else (impl_RankOfClimb.l1 k x6 x8 x9 x11 x27 x28 x29 x34 x35 (wrap64 (x36 + 1)) x528000 x528001 x528002)) else (impl_RankOfClimb.l1 k x6 x8 x9 x11 x27 x28 x29 x34 x35 (wrap64 (x36 + 1)) x528000 x528001 x528002)) else (none)) else (none)) else (impl_RankOfClimb.l0 k x6 x8 (wrap64 (x9 + x11)) x27 x28 (wrap64 (x29 + 1)) x528000 x528001 x528002)
end
def impl_RankOfClimb.f (k : Nat) (a0_0 : Int) (l0_1 : List Int) (l0_2 : List Int) (l1 : List Int) : Option (Int × Bool) := (impl_counted.f k a0_0 l0_1 l0_2).bind fun bt528 => (if bt528.2 = true then ((impl_Stairs_isClimb.f k a0_0 l0_1 l0_2 l1).bind fun t532 => (impl_RankOfClimb.j0 k l1 bt528.1 (!t532) a0_0 l0_1 l0_2)) else (impl_RankOfClimb.j0 k l1 bt528.1 true a0_0 l0_1 l0_2))
theorem impl_RankOfClimb.mono_l : ∀ k, (∀ y0 y1 y2 y3 y4 y5, LeO (impl_RankOfClimb.j0 k y0 y1 y2 y3 y4 y5) (impl_RankOfClimb.j0 (k + 1) y0 y1 y2 y3 y4 y5)) ∧ (∀ y0 y1 y2 y3 y4 y5 y6 y7 y8, LeO (impl_RankOfClimb.l0 k y0 y1 y2 y3 y4 y5 y6 y7 y8) (impl_RankOfClimb.l0 (k + 1) y0 y1 y2 y3 y4 y5 y6 y7 y8)) ∧ (∀ y0 y1 y2 y3 y4 y5 y6 y7 y8 y9 y10 y11 y12, LeO (impl_RankOfClimb.l1 k y0 y1 y2 y3 y4 y5 y6 y7 y8 y9 y10 y11 y12) (impl_RankOfClimb.l1 (k + 1) y0 y1 y2 y3 y4 y5 y6 y7 y8 y9 y10 y11 y12))
  | 0 => ⟨fun _ _ _ _ _ _ r h => by simp [impl_RankOfClimb.j0] at h, fun _ _ _ _ _ _ _ _ _ r h => by simp [impl_RankOfClimb.l0] at h, fun _ _ _ _ _ _ _ _ _ _ _ _ _ r h => by simp [impl_RankOfClimb.l1] at h⟩
  | k + 1 => by
    obtain ⟨ih0, ih1, ih2⟩ := impl_RankOfClimb.mono_l k
    refine ⟨?_, ?_, ?_⟩
    · intro y0 y1 y2 y3 y4 y5
      unfold impl_RankOfClimb.j0
      repeat' first
      | (with_reducible exact ih0 _ _ _ _ _ _)
      | (with_reducible exact ih1 _ _ _ _ _ _ _ _ _)
      | (with_reducible exact ih2 _ _ _ _ _ _ _ _ _ _ _ _ _)
      | (with_reducible exact impl_Stairs_isClimb.mono _ _ _ _ _)
      | (with_reducible exact impl_counted.mono _ _ _ _)
      | (with_reducible exact LeO.refl _)
      | (with_reducible exact LeO.none _)
      | (with_reducible refine LeO.ite ?_ ?_)
      | (with_reducible refine LeO.bind ?_ (fun _ => ?_))
      | exact ih0 _ _ _ _ _ _
      | exact ih1 _ _ _ _ _ _ _ _ _
      | exact ih2 _ _ _ _ _ _ _ _ _ _ _ _ _
      | exact impl_Stairs_isClimb.mono _ _ _ _ _
      | exact impl_counted.mono _ _ _ _
      | exact LeO.none _
      | refine LeO.ite ?_ ?_
      | refine LeO.bind ?_ (fun _ => ?_)
    · intro y0 y1 y2 y3 y4 y5 y6 y7 y8
      unfold impl_RankOfClimb.l0
      repeat' first
      | (with_reducible exact ih0 _ _ _ _ _ _)
      | (with_reducible exact ih1 _ _ _ _ _ _ _ _ _)
      | (with_reducible exact ih2 _ _ _ _ _ _ _ _ _ _ _ _ _)
      | (with_reducible exact impl_Stairs_isClimb.mono _ _ _ _ _)
      | (with_reducible exact impl_counted.mono _ _ _ _)
      | (with_reducible exact LeO.refl _)
      | (with_reducible exact LeO.none _)
      | (with_reducible refine LeO.ite ?_ ?_)
      | (with_reducible refine LeO.bind ?_ (fun _ => ?_))
      | exact ih0 _ _ _ _ _ _
      | exact ih1 _ _ _ _ _ _ _ _ _
      | exact ih2 _ _ _ _ _ _ _ _ _ _ _ _ _
      | exact impl_Stairs_isClimb.mono _ _ _ _ _
      | exact impl_counted.mono _ _ _ _
      | exact LeO.none _
      | refine LeO.ite ?_ ?_
      | refine LeO.bind ?_ (fun _ => ?_)
    · intro y0 y1 y2 y3 y4 y5 y6 y7 y8 y9 y10 y11 y12
      unfold impl_RankOfClimb.l1
      repeat' first
      | (with_reducible exact ih0 _ _ _ _ _ _)
      | (with_reducible exact ih1 _ _ _ _ _ _ _ _ _)
      | (with_reducible exact ih2 _ _ _ _ _ _ _ _ _ _ _ _ _)
      | (with_reducible exact impl_Stairs_isClimb.mono _ _ _ _ _)
      | (with_reducible exact impl_counted.mono _ _ _ _)
      | (with_reducible exact LeO.refl _)
      | (with_reducible exact LeO.none _)
      | (with_reducible refine LeO.ite ?_ ?_)
      | (with_reducible refine LeO.bind ?_ (fun _ => ?_))
      | exact ih0 _ _ _ _ _ _
      | exact ih1 _ _ _ _ _ _ _ _ _
      | exact ih2 _ _ _ _ _ _ _ _ _ _ _ _ _
      | exact impl_Stairs_isClimb.mono _ _ _ _ _
      | exact impl_counted.mono _ _ _ _
      | exact LeO.none _
      | refine LeO.ite ?_ ?_
      | refine LeO.bind ?_ (fun _ => ?_)
theorem impl_RankOfClimb.mono : ∀ a0 a1 a2 a3 k, LeO (impl_RankOfClimb.f k a0 a1 a2 a3) (impl_RankOfClimb.f (k + 1) a0 a1 a2 a3) := by
  intro a0 a1 a2 a3 k
  obtain ⟨ih0, ih1, ih2⟩ := impl_RankOfClimb.mono_l k
  unfold impl_RankOfClimb.f
  repeat' first
      | (with_reducible exact ih0 _ _ _ _ _ _)
      | (with_reducible exact ih1 _ _ _ _ _ _ _ _ _)
      | (with_reducible exact ih2 _ _ _ _ _ _ _ _ _ _ _ _ _)
      | (with_reducible exact impl_Stairs_isClimb.mono _ _ _ _ _)
      | (with_reducible exact impl_counted.mono _ _ _ _)
      | (with_reducible exact LeO.refl _)
      | (with_reducible exact LeO.none _)
      | (with_reducible refine LeO.ite ?_ ?_)
      | (with_reducible refine LeO.bind ?_ (fun _ => ?_))
      | exact ih0 _ _ _ _ _ _
      | exact ih1 _ _ _ _ _ _ _ _ _
      | exact ih2 _ _ _ _ _ _ _ _ _ _ _ _ _
      | exact impl_Stairs_isClimb.mono _ _ _ _ _
      | exact impl_counted.mono _ _ _ _
      | exact LeO.none _
      | refine LeO.ite ?_ ?_
      | refine LeO.bind ?_ (fun _ => ?_)

/-! ### impl_NextClimb: function 28 -/
def impl_NextClimb.f (k : Nat) (a0_0 : Int) (l0_1 : List Int) (l0_2 : List Int) (l1 : List Int) : Option (List Int × Bool) := (impl_RankOfClimb.f k a0_0 l0_1 l0_2 l1).bind fun bt537 => (if bt537.2 = true then ((impl_ClimbOfRank.f k a0_0 l0_1 l0_2 (wrap64 (bt537.1 + 1))).bind fun bt539 => (some (bt539.1, bt539.2))) else (some (([] : List Int), false)))
theorem impl_NextClimb.mono : ∀ a0 a1 a2 a3 k, LeO (impl_NextClimb.f k a0 a1 a2 a3) (impl_NextClimb.f (k + 1) a0 a1 a2 a3) := by
  intro a0 a1 a2 a3 k
  unfold impl_NextClimb.f
  repeat' first
      | (with_reducible exact impl_ClimbOfRank.mono _ _ _ _ _)
      | (with_reducible exact impl_RankOfClimb.mono _ _ _ _ _)
      | (with_reducible exact LeO.refl _)
      | (with_reducible exact LeO.none _)
      | (with_reducible refine LeO.ite ?_ ?_)
      | (with_reducible refine LeO.bind ?_ (fun _ => ?_))
      | exact impl_ClimbOfRank.mono _ _ _ _ _
      | exact impl_RankOfClimb.mono _ _ _ _ _
      | exact LeO.none _
      | refine LeO.ite ?_ ?_
      | refine LeO.bind ?_ (fun _ => ?_)

/-! ### laws_lBefore: function 29 -/
mutual
def laws_lBefore.l0 : Nat → List Int → List Int → Int → Option (Bool)
  | 0, _, _, _ => none
  | k + 1, x0, x1, x5 => if x5 < (x0.length : Int) then (laws_lBefore.j1 k x0 x1 x5 (decide (x5 < (x1.length : Int)))) else (laws_lBefore.j1 k x0 x1 x5 false)
def laws_lBefore.j1 : Nat → List Int → List Int → Int → Bool → Option (Bool)
  | 0, _, _, _, _ => none
  | k + 1, x0, x1, x5, x15 => if x15 = true then (if 0 ≤ x5 then (if x5 < (x0.length : Int) then (if x5 < (x1.length : Int) then (if (rd x0 x5) = (rd x1 x5) then (laws_lBefore.l0 k x0 x1 (wrap64 (x5 + 1))) else (some (decide ((rd x0 x5) < (rd x1 x5))))) else (none)) else (none)) else (none)) else (some (decide ((x0.length : Int) ≤ (x1.length : Int))))
end
def laws_lBefore.f (k : Nat) (l0 : List Int) (l1 : List Int) : Option (Bool) := laws_lBefore.l0 k l0 l1 0
theorem laws_lBefore.mono_l : ∀ k, (∀ y0 y1 y2, LeO (laws_lBefore.l0 k y0 y1 y2) (laws_lBefore.l0 (k + 1) y0 y1 y2)) ∧ (∀ y0 y1 y2 y3, LeO (laws_lBefore.j1 k y0 y1 y2 y3) (laws_lBefore.j1 (k + 1) y0 y1 y2 y3))
  | 0 => ⟨fun _ _ _ r h => by simp [laws_lBefore.l0] at h, fun _ _ _ _ r h => by simp [laws_lBefore.j1] at h⟩
  | k + 1 => by
    obtain ⟨ih0, ih1⟩ := laws_lBefore.mono_l k
    refine ⟨?_, ?_⟩
    · intro y0 y1 y2
      unfold laws_lBefore.l0
      repeat' first
      | (with_reducible exact ih0 _ _ _)
      | (with_reducible exact ih1 _ _ _ _)
      | (with_reducible exact LeO.refl _)
      | (with_reducible exact LeO.none _)
      | (with_reducible refine LeO.ite ?_ ?_)
      | (with_reducible refine LeO.bind ?_ (fun _ => ?_))
      | exact ih0 _ _ _
      | exact ih1 _ _ _ _
      | exact LeO.none _
      | refine LeO.ite ?_ ?_
      | refine LeO.bind ?_ (fun _ => ?_)
    · intro y0 y1 y2 y3
      unfold laws_lBefore.j1
      repeat' first
      | (with_reducible exact ih0 _ _ _)
      | (with_reducible exact ih1 _ _ _ _)
      | (with_reducible exact LeO.refl _)
      | (with_reducible exact LeO.none _)
      | (with_reducible refine LeO.ite ?_ ?_)
      | (with_reducible refine LeO.bind ?_ (fun _ => ?_))
      | exact ih0 _ _ _
      | exact ih1 _ _ _ _
      | exact LeO.none _
      | refine LeO.ite ?_ ?_
      | refine LeO.bind ?_ (fun _ => ?_)
theorem laws_lBefore.mono : ∀ a0 a1 k, LeO (laws_lBefore.f k a0 a1) (laws_lBefore.f (k + 1) a0 a1) := by
  intro a0 a1 k
  obtain ⟨ih0, ih1⟩ := laws_lBefore.mono_l k
  unfold laws_lBefore.f
  repeat' first
      | (with_reducible exact ih0 _ _ _)
      | (with_reducible exact ih1 _ _ _ _)
      | (with_reducible exact LeO.refl _)
      | (with_reducible exact LeO.none _)
      | (with_reducible refine LeO.ite ?_ ?_)
      | (with_reducible refine LeO.bind ?_ (fun _ => ?_))
      | exact ih0 _ _ _
      | exact ih1 _ _ _ _
      | exact LeO.none _
      | refine LeO.ite ?_ ?_
      | refine LeO.bind ?_ (fun _ => ?_)

/-! ### slices_Reverse_int_int: function 69 -/
def slices_Reverse_int_int.l0 : Nat → List Int → Int → Int → Option (List Int)
  | 0, _, _, _ => none
  | k + 1, x0, x2, x3 => if x2 < x3 then (if 0 ≤ x3 then (if x3 < (x0.length : Int) then (if 0 ≤ x2 then (if x2 < (x0.length : Int) then (slices_Reverse_int_int.l0 k ((x0.set (x2 : Int).toNat (rd x0 x3)).set (x3 : Int).toNat (rd x0 x2)) (wrap64 (x2 + 1)) (wrap64 (x3 - 1))) else (none)) else (none)) else (none)) else (none)) else (some x0)
def slices_Reverse_int_int.f (k : Nat) (l0 : List Int) : Option (List Int) := slices_Reverse_int_int.l0 k l0 0 (wrap64 ((l0.length : Int) - 1))
theorem slices_Reverse_int_int.mono_l : ∀ k, (∀ y0 y1 y2, LeO (slices_Reverse_int_int.l0 k y0 y1 y2) (slices_Reverse_int_int.l0 (k + 1) y0 y1 y2))
  | 0 => fun _ _ _ r h => by simp [slices_Reverse_int_int.l0] at h
  | k + 1 => by
    have ih0 := slices_Reverse_int_int.mono_l k
    · intro y0 y1 y2
      unfold slices_Reverse_int_int.l0
      repeat' first
      | (with_reducible exact ih0 _ _ _)
      | (with_reducible exact LeO.refl _)
      | (with_reducible exact LeO.none _)
      | (with_reducible refine LeO.ite ?_ ?_)
      | (with_reducible refine LeO.bind ?_ (fun _ => ?_))
      | exact ih0 _ _ _
      | exact LeO.none _
      | refine LeO.ite ?_ ?_
      | refine LeO.bind ?_ (fun _ => ?_)
theorem slices_Reverse_int_int.mono : ∀ a0 k, LeO (slices_Reverse_int_int.f k a0) (slices_Reverse_int_int.f (k + 1) a0) := by
  intro a0 k
  have ih0 := slices_Reverse_int_int.mono_l k
  unfold slices_Reverse_int_int.f
  repeat' first
      | (with_reducible exact ih0 _ _ _)
      | (with_reducible exact LeO.refl _)
      | (with_reducible exact LeO.none _)
      | (with_reducible refine LeO.ite ?_ ?_)
      | (with_reducible refine LeO.bind ?_ (fun _ => ?_))
      | exact ih0 _ _ _
      | exact LeO.none _
      | refine LeO.ite ?_ ?_
      | refine LeO.bind ?_ (fun _ => ?_)

def impl_TurnStairs.f (k : Nat) (a0_0 : Int) (l0_1 : List Int) (l0_2 : List Int) : Option (Int × List Int × List Int × Bool) := (impl_AreStairs.f k a0_0 l0_1 l0_2).bind fun t => (if t = true then ((impl_Stairs_copied.f a0_0 l0_1 l0_2).bind fun b => ((slices_Reverse_int_int.f k (b.2.2.map fun x => wrap64 (a0_0 - x))).bind fun q => (some (b.1, b.2.1, q, true)))) else (some (0, ([] : List Int), ([] : List Int), false)))
theorem impl_TurnStairs.mono : ∀ a0 a1 a2 k, LeO (impl_TurnStairs.f k a0 a1 a2) (impl_TurnStairs.f (k + 1) a0 a1 a2) := by
  intro a0 a1 a2 k
  unfold impl_TurnStairs.f
  exact LeO.bind (impl_AreStairs.mono _ _ _ _) (fun _ => LeO.ite (LeO.bind (LeO.refl _) (fun _ => LeO.bind (slices_Reverse_int_int.mono _ _) (fun _ => LeO.refl _))) (LeO.refl _))

/-! ### impl_CountByStrides: function 31 -/
def impl_CountByStrides.j0 : Nat → Int → Bool → Int → List Int → List Int → Option (Int × Bool)
  | 0, _, _, _, _, _ => none
  | k + 1, x1, x18, x552000, x552001, x552002 => if x18 = true then (some (0, false)) else (if x1 > x552000 then (some (0, true)) else ((impl_Stairs_byStrides.f k x552000 x552001 x552002).bind fun t556 => (if 0 ≤ x1 then (if x1 < (t556.length : Int) then (some (rd t556 x1, true)) else (none)) else (none))))
def impl_CountByStrides.f (k : Nat) (a0_0 : Int) (l0_1 : List Int) (l0_2 : List Int) (a1 : Int) : Option (Int × Bool) := (impl_counted.f k a0_0 l0_1 l0_2).bind fun bt552 => (if bt552.2 = true then (impl_CountByStrides.j0 k a1 (decide (a1 < 0)) a0_0 l0_1 l0_2) else (impl_CountByStrides.j0 k a1 true a0_0 l0_1 l0_2))
theorem impl_CountByStrides.mono_l : ∀ k, (∀ y0 y1 y2 y3 y4, LeO (impl_CountByStrides.j0 k y0 y1 y2 y3 y4) (impl_CountByStrides.j0 (k + 1) y0 y1 y2 y3 y4))
  | 0 => fun _ _ _ _ _ r h => by simp [impl_CountByStrides.j0] at h
  | k + 1 => by
    have ih0 := impl_CountByStrides.mono_l k
    · intro y0 y1 y2 y3 y4
      unfold impl_CountByStrides.j0
      repeat' first
      | (with_reducible exact ih0 _ _ _ _ _)
      | (with_reducible exact impl_Stairs_byStrides.mono _ _ _ _)
      | (with_reducible exact impl_counted.mono _ _ _ _)
      | (with_reducible exact LeO.refl _)
      | (with_reducible exact LeO.none _)
      | (with_reducible refine LeO.ite ?_ ?_)
      | (with_reducible refine LeO.bind ?_ (fun _ => ?_))
      | exact ih0 _ _ _ _ _
      | exact impl_Stairs_byStrides.mono _ _ _ _
      | exact impl_counted.mono _ _ _ _
      | exact LeO.none _
      | refine LeO.ite ?_ ?_
      | refine LeO.bind ?_ (fun _ => ?_)
theorem impl_CountByStrides.mono : ∀ a0 a1 a2 a3 k, LeO (impl_CountByStrides.f k a0 a1 a2 a3) (impl_CountByStrides.f (k + 1) a0 a1 a2 a3) := by
  intro a0 a1 a2 a3 k
  have ih0 := impl_CountByStrides.mono_l k
  unfold impl_CountByStrides.f
  repeat' first
      | (with_reducible exact ih0 _ _ _ _ _)
      | (with_reducible exact impl_Stairs_byStrides.mono _ _ _ _)
      | (with_reducible exact impl_counted.mono _ _ _ _)
      | (with_reducible exact LeO.refl _)
      | (with_reducible exact LeO.none _)
      | (with_reducible refine LeO.ite ?_ ?_)
      | (with_reducible refine LeO.bind ?_ (fun _ => ?_))
      | exact ih0 _ _ _ _ _
      | exact impl_Stairs_byStrides.mono _ _ _ _
      | exact impl_counted.mono _ _ _ _
      | exact LeO.none _
      | refine LeO.ite ?_ ?_
      | refine LeO.bind ?_ (fun _ => ?_)

/-! ### spec_clIs: function 72 -/
def spec_clIs.l0 : Nat → Int → List Int → Int → Int → Int → List Int → List Int → Option (Bool)
  | 0, _, _, _, _, _, _, _ => none
  | k + 1, x5, x8, x9, x10, x561000, x561001, x561002 => if x10 < x9 then (if 0 ≤ x10 then (if x10 < (x8.length : Int) then ((spec_l1Has.f k x561001 (rd x8 x10)).bind fun t562 => (if t562 = true then ((spec_clStands.f k x561000 x561001 x561002 (wrap64 (x5 + (rd x8 x10)))).bind fun t563 => (if t563 = true then (spec_clIs.l0 k (wrap64 (x5 + (rd x8 x10))) x8 x9 (wrap64 (x10 + 1)) x561000 x561001 x561002) else (some false))) else (some false))) else (none)) else (none)) else (some (x5 == x561000))
def spec_clIs.f (k : Nat) (a0_0 : Int) (l0_1 : List Int) (l0_2 : List Int) (l1 : List Int) : Option (Bool) := spec_clIs.l0 k 0 l1 (l1.length : Int) 0 a0_0 l0_1 l0_2
theorem spec_clIs.mono_l : ∀ k, (∀ y0 y1 y2 y3 y4 y5 y6, LeO (spec_clIs.l0 k y0 y1 y2 y3 y4 y5 y6) (spec_clIs.l0 (k + 1) y0 y1 y2 y3 y4 y5 y6))
  | 0 => fun _ _ _ _ _ _ _ r h => by simp [spec_clIs.l0] at h
  | k + 1 => by
    have ih0 := spec_clIs.mono_l k
    · intro y0 y1 y2 y3 y4 y5 y6
      unfold spec_clIs.l0
      repeat' first
      | (with_reducible exact ih0 _ _ _ _ _ _ _)
      | (with_reducible exact spec_clStands.mono _ _ _ _ _)
      | (with_reducible exact spec_l1Has.mono _ _ _)
      | (with_reducible exact LeO.refl _)
      | (with_reducible exact LeO.none _)
      | (with_reducible refine LeO.ite ?_ ?_)
      | (with_reducible refine LeO.bind ?_ (fun _ => ?_))
      | exact ih0 _ _ _ _ _ _ _
      | exact spec_clStands.mono _ _ _ _ _
      | exact spec_l1Has.mono _ _ _
      | exact LeO.none _
      | refine LeO.ite ?_ ?_
      | refine LeO.bind ?_ (fun _ => ?_)
theorem spec_clIs.mono : ∀ a0 a1 a2 a3 k, LeO (spec_clIs.f k a0 a1 a2 a3) (spec_clIs.f (k + 1) a0 a1 a2 a3) := by
  intro a0 a1 a2 a3 k
  have ih0 := spec_clIs.mono_l k
  unfold spec_clIs.f
  repeat' first
      | (with_reducible exact ih0 _ _ _ _ _ _ _)
      | (with_reducible exact spec_clStands.mono _ _ _ _ _)
      | (with_reducible exact spec_l1Has.mono _ _ _)
      | (with_reducible exact LeO.refl _)
      | (with_reducible exact LeO.none _)
      | (with_reducible refine LeO.ite ?_ ?_)
      | (with_reducible refine LeO.bind ?_ (fun _ => ?_))
      | exact ih0 _ _ _ _ _ _ _
      | exact spec_clStands.mono _ _ _ _ _
      | exact spec_l1Has.mono _ _ _
      | exact LeO.none _
      | refine LeO.ite ?_ ?_
      | refine LeO.bind ?_ (fun _ => ?_)

/-! ### spec_clBoth: function 70 -/
def spec_clBoth.f (k : Nat) (a0_0 : Int) (l0_1 : List Int) (l0_2 : List Int) (l1 : List Int) : Option (Bool) := (spec_clGood.f k a0_0 l0_1 l0_2).bind fun t565 => (if t565 = true then ((spec_clIs.f k a0_0 l0_1 l0_2 l1).bind fun t566 => (some t566)) else (some false))
theorem spec_clBoth.mono : ∀ a0 a1 a2 a3 k, LeO (spec_clBoth.f k a0 a1 a2 a3) (spec_clBoth.f (k + 1) a0 a1 a2 a3) := by
  intro a0 a1 a2 a3 k
  unfold spec_clBoth.f
  repeat' first
      | (with_reducible exact spec_clGood.mono _ _ _ _)
      | (with_reducible exact spec_clIs.mono _ _ _ _ _)
      | (with_reducible exact LeO.refl _)
      | (with_reducible exact LeO.none _)
      | (with_reducible refine LeO.ite ?_ ?_)
      | (with_reducible refine LeO.bind ?_ (fun _ => ?_))
      | exact spec_clGood.mono _ _ _ _
      | exact spec_clIs.mono _ _ _ _ _
      | exact LeO.none _
      | refine LeO.ite ?_ ?_
      | refine LeO.bind ?_ (fun _ => ?_)

/-! ### spec_clRank: function 71 -/
mutual
def spec_clRank.l0 : Nat → List Int → Int → Int → List Int → Int → Int → Int → List Int → List Int → Option (Int)
  | 0, _, _, _, _, _, _, _, _, _ => none
  | k + 1, x5, x6, x7, x14, x15, x16, x568000, x568001, x568002 => if x16 < x15 then (if 0 ≤ x16 then (if x16 < (x14.length : Int) then (spec_clRank.l1 k x5 x6 x7 (rd x14 x16) x14 x15 x16 x568001 (x568001.length : Int) 0 x568000 x568001 x568002) else (none)) else (none)) else (some x6)
def spec_clRank.l1 : Nat → List Int → Int → Int → Int → List Int → Int → Int → List Int → Int → Int → Int → List Int → List Int → Option (Int)
  | 0, _, _, _, _, _, _, _, _, _, _, _, _, _ => none
  | k + 1, x5, x6, x7, x9, x14, x15, x16, x21, x22, x23, x568000, x568001, x568002 => if x23 < x22 then (if 0 ≤ x23 then (if x23 < (x21.length : Int) then (if (rd x21 x23) < x9 then (if 0 ≤ (wrap64 (x7 + (rd x21 x23))) then (if (wrap64 (x7 + (rd x21 x23))) < (x5.length : Int) then (spec_clRank.l1 k x5 (wrap64 (x6 + (rd x5 (wrap64 (x7 + (rd x21 x23)))))) x7 x9 x14 x15 x16 x21 x22 (wrap64 (x23 + 1)) x568000 x568001 x568002) else (none)) else (none)) else (spec_clRank.l1 k x5 x6 x7 x9 x14 x15 x16 x21 x22 (wrap64 (x23 + 1)) x568000 x568001 x568002)) else (none)) else (none)) else (spec_clRank.l0 k x5 x6 (wrap64 (x7 + x9)) x14 x15 (wrap64 (x16 + 1)) x568000 x568001 x568002)
end
def spec_clRank.f (k : Nat) (a0_0 : Int) (l0_1 : List Int) (l0_2 : List Int) (l1 : List Int) : Option (Int) := (spec_clWays.f k a0_0 l0_1 l0_2).bind fun t568 => (spec_clRank.l0 k t568 0 0 l1 (l1.length : Int) 0 a0_0 l0_1 l0_2)
theorem spec_clRank.mono_l : ∀ k, (∀ y0 y1 y2 y3 y4 y5 y6 y7 y8, LeO (spec_clRank.l0 k y0 y1 y2 y3 y4 y5 y6 y7 y8) (spec_clRank.l0 (k + 1) y0 y1 y2 y3 y4 y5 y6 y7 y8)) ∧ (∀ y0 y1 y2 y3 y4 y5 y6 y7 y8 y9 y10 y11 y12, LeO (spec_clRank.l1 k y0 y1 y2 y3 y4 y5 y6 y7 y8 y9 y10 y11 y12) (spec_clRank.l1 (k + 1) y0 y1 y2 y3 y4 y5 y6 y7 y8 y9 y10 y11 y12))
  | 0 => ⟨fun _ _ _ _ _ _ _ _ _ r h => by simp [spec_clRank.l0] at h, fun _ _ _ _ _ _ _ _ _ _ _ _ _ r h => by simp [spec_clRank.l1] at h⟩
  | k + 1 => by
    obtain ⟨ih0, ih1⟩ := spec_clRank.mono_l k
    refine ⟨?_, ?_⟩
    · intro y0 y1 y2 y3 y4 y5 y6 y7 y8
      unfold spec_clRank.l0
      repeat' first
      | (with_reducible exact ih0 _ _ _ _ _ _ _ _ _)
      | (with_reducible exact ih1 _ _ _ _ _ _ _ _ _ _ _ _ _)
      | (with_reducible exact spec_clWays.mono _ _ _ _)
      | (with_reducible exact LeO.refl _)
      | (with_reducible exact LeO.none _)
      | (with_reducible refine LeO.ite ?_ ?_)
      | (with_reducible refine LeO.bind ?_ (fun _ => ?_))
      | exact ih0 _ _ _ _ _ _ _ _ _
      | exact ih1 _ _ _ _ _ _ _ _ _ _ _ _ _
      | exact spec_clWays.mono _ _ _ _
      | exact LeO.none _
      | refine LeO.ite ?_ ?_
      | refine LeO.bind ?_ (fun _ => ?_)
    · intro y0 y1 y2 y3 y4 y5 y6 y7 y8 y9 y10 y11 y12
      unfold spec_clRank.l1
      repeat' first
      | (with_reducible exact ih0 _ _ _ _ _ _ _ _ _)
      | (with_reducible exact ih1 _ _ _ _ _ _ _ _ _ _ _ _ _)
      | (with_reducible exact spec_clWays.mono _ _ _ _)
      | (with_reducible exact LeO.refl _)
      | (with_reducible exact LeO.none _)
      | (with_reducible refine LeO.ite ?_ ?_)
      | (with_reducible refine LeO.bind ?_ (fun _ => ?_))
      | exact ih0 _ _ _ _ _ _ _ _ _
      | exact ih1 _ _ _ _ _ _ _ _ _ _ _ _ _
      | exact spec_clWays.mono _ _ _ _
      | exact LeO.none _
      | refine LeO.ite ?_ ?_
      | refine LeO.bind ?_ (fun _ => ?_)
theorem spec_clRank.mono : ∀ a0 a1 a2 a3 k, LeO (spec_clRank.f k a0 a1 a2 a3) (spec_clRank.f (k + 1) a0 a1 a2 a3) := by
  intro a0 a1 a2 a3 k
  obtain ⟨ih0, ih1⟩ := spec_clRank.mono_l k
  unfold spec_clRank.f
  repeat' first
      | (with_reducible exact ih0 _ _ _ _ _ _ _ _ _)
      | (with_reducible exact ih1 _ _ _ _ _ _ _ _ _ _ _ _ _)
      | (with_reducible exact spec_clWays.mono _ _ _ _)
      | (with_reducible exact LeO.refl _)
      | (with_reducible exact LeO.none _)
      | (with_reducible refine LeO.ite ?_ ?_)
      | (with_reducible refine LeO.bind ?_ (fun _ => ?_))
      | exact ih0 _ _ _ _ _ _ _ _ _
      | exact ih1 _ _ _ _ _ _ _ _ _ _ _ _ _
      | exact spec_clWays.mono _ _ _ _
      | exact LeO.none _
      | refine LeO.ite ?_ ?_
      | refine LeO.bind ?_ (fun _ => ?_)

/-! ### spec_RankOfClimb: function 32 -/
def spec_RankOfClimb.f (k : Nat) (a0_0 : Int) (l0_1 : List Int) (l0_2 : List Int) (l1 : List Int) : Option (Int × Bool) := (spec_clBoth.f k a0_0 l0_1 l0_2 l1).bind fun t575 => (if t575 = true then ((spec_clCounted.f k a0_0 l0_1 l0_2).bind fun t576 => (if t576 = true then ((spec_clRank.f k a0_0 l0_1 l0_2 l1).bind fun t577 => (some (t577, true))) else (some (0, false)))) else (some (0, false)))
theorem spec_RankOfClimb.mono : ∀ a0 a1 a2 a3 k, LeO (spec_RankOfClimb.f k a0 a1 a2 a3) (spec_RankOfClimb.f (k + 1) a0 a1 a2 a3) := by
  intro a0 a1 a2 a3 k
  unfold spec_RankOfClimb.f
  repeat' first
      | (with_reducible exact spec_clBoth.mono _ _ _ _ _)
      | (with_reducible exact spec_clCounted.mono _ _ _ _)
      | (with_reducible exact spec_clRank.mono _ _ _ _ _)
      | (with_reducible exact LeO.refl _)
      | (with_reducible exact LeO.none _)
      | (with_reducible refine LeO.ite ?_ ?_)
      | (with_reducible refine LeO.bind ?_ (fun _ => ?_))
      | exact spec_clBoth.mono _ _ _ _ _
      | exact spec_clCounted.mono _ _ _ _
      | exact spec_clRank.mono _ _ _ _ _
      | exact LeO.none _
      | refine LeO.ite ?_ ?_
      | refine LeO.bind ?_ (fun _ => ?_)

/-! ### spec_IsClimb: function 33 -/
def spec_IsClimb.f (k : Nat) (a0_0 : Int) (l0_1 : List Int) (l0_2 : List Int) (l1 : List Int) : Option (Bool × Bool) := (spec_clGood.f k a0_0 l0_1 l0_2).bind fun t579 => (if t579 = true then ((spec_clIs.f k a0_0 l0_1 l0_2 l1).bind fun t580 => (some (t580, true))) else (some (false, false)))
theorem spec_IsClimb.mono : ∀ a0 a1 a2 a3 k, LeO (spec_IsClimb.f k a0 a1 a2 a3) (spec_IsClimb.f (k + 1) a0 a1 a2 a3) := by
  intro a0 a1 a2 a3 k
  unfold spec_IsClimb.f
  repeat' first
      | (with_reducible exact spec_clGood.mono _ _ _ _)
      | (with_reducible exact spec_clIs.mono _ _ _ _ _)
      | (with_reducible exact LeO.refl _)
      | (with_reducible exact LeO.none _)
      | (with_reducible refine LeO.ite ?_ ?_)
      | (with_reducible refine LeO.bind ?_ (fun _ => ?_))
      | exact spec_clGood.mono _ _ _ _
      | exact spec_clIs.mono _ _ _ _ _
      | exact LeO.none _
      | refine LeO.ite ?_ ?_
      | refine LeO.bind ?_ (fun _ => ?_)

/-! ### impl_StepsOfClimb: function 34 -/
mutual
def impl_StepsOfClimb.j0 : Nat → List Int → Bool → Option (List Int × Bool)
  | 0, _, _ => none
  | k + 1, x1, x18 => if x18 = true then (some (([] : List Int), false)) else (impl_StepsOfClimb.l0 k (([] : List Int)) 0 x1 (x1.length : Int) 0)
def impl_StepsOfClimb.l0 : Nat → List Int → Int → List Int → Int → Int → Option (List Int × Bool)
  | 0, _, _, _, _, _ => none
  | k + 1, x6, x7, x20, x21, x22 => if x22 < x21 then (if 0 ≤ x22 then (if x22 < (x20.length : Int) then (if x6.length < 17592186044416 then (impl_StepsOfClimb.l0 k (x6 ++ [wrap64 (x7 + (rd x20 x22))]) (wrap64 (x7 + (rd x20 x22))) x20 x21 (wrap64 (x22 + 1))) else (none)) else (none)) else (none)) else (some (x6, true))
end
def impl_StepsOfClimb.f (k : Nat) (a0_0 : Int) (l0_1 : List Int) (l0_2 : List Int) (l1 : List Int) : Option (List Int × Bool) := (impl_AreStairs.f k a0_0 l0_1 l0_2).bind fun t582 => (if t582 = true then ((impl_Stairs_isClimb.f k a0_0 l0_1 l0_2 l1).bind fun t583 => (impl_StepsOfClimb.j0 k l1 (!t583))) else (impl_StepsOfClimb.j0 k l1 true))
theorem impl_StepsOfClimb.mono_l : ∀ k, (∀ y0 y1, LeO (impl_StepsOfClimb.j0 k y0 y1) (impl_StepsOfClimb.j0 (k + 1) y0 y1)) ∧ (∀ y0 y1 y2 y3 y4, LeO (impl_StepsOfClimb.l0 k y0 y1 y2 y3 y4) (impl_StepsOfClimb.l0 (k + 1) y0 y1 y2 y3 y4))
  | 0 => ⟨fun _ _ r h => by simp [impl_StepsOfClimb.j0] at h, fun _ _ _ _ _ r h => by simp [impl_StepsOfClimb.l0] at h⟩
  | k + 1 => by
    obtain ⟨ih0, ih1⟩ := impl_StepsOfClimb.mono_l k
    refine ⟨?_, ?_⟩
    · intro y0 y1
      unfold impl_StepsOfClimb.j0
      repeat' first
      | (with_reducible exact ih0 _ _)
      | (with_reducible exact ih1 _ _ _ _ _)
      | (with_reducible exact impl_AreStairs.mono _ _ _ _)
      | (with_reducible exact impl_Stairs_isClimb.mono _ _ _ _ _)
      | (with_reducible exact LeO.refl _)
      | (with_reducible exact LeO.none _)
      | (with_reducible refine LeO.ite ?_ ?_)
      | (with_reducible refine LeO.bind ?_ (fun _ => ?_))
      | exact ih0 _ _
      | exact ih1 _ _ _ _ _
      | exact impl_AreStairs.mono _ _ _ _
      | exact impl_Stairs_isClimb.mono _ _ _ _ _
      | exact LeO.none _
      | refine LeO.ite ?_ ?_
      | refine LeO.bind ?_ (fun _ => ?_)
    · intro y0 y1 y2 y3 y4
      unfold impl_StepsOfClimb.l0
      repeat' first
      | (with_reducible exact ih0 _ _)
      | (with_reducible exact ih1 _ _ _ _ _)
      | (with_reducible exact impl_AreStairs.mono _ _ _ _)
      | (with_reducible exact impl_Stairs_isClimb.mono _ _ _ _ _)
      | (with_reducible exact LeO.refl _)
      | (with_reducible exact LeO.none _)
      | (with_reducible refine LeO.ite ?_ ?_)
      | (with_reducible refine LeO.bind ?_ (fun _ => ?_))
      | exact ih0 _ _
      | exact ih1 _ _ _ _ _
      | exact impl_AreStairs.mono _ _ _ _
      | exact impl_Stairs_isClimb.mono _ _ _ _ _
      | exact LeO.none _
      | refine LeO.ite ?_ ?_
      | refine LeO.bind ?_ (fun _ => ?_)
theorem impl_StepsOfClimb.mono : ∀ a0 a1 a2 a3 k, LeO (impl_StepsOfClimb.f k a0 a1 a2 a3) (impl_StepsOfClimb.f (k + 1) a0 a1 a2 a3) := by
  intro a0 a1 a2 a3 k
  obtain ⟨ih0, ih1⟩ := impl_StepsOfClimb.mono_l k
  unfold impl_StepsOfClimb.f
  repeat' first
      | (with_reducible exact ih0 _ _)
      | (with_reducible exact ih1 _ _ _ _ _)
      | (with_reducible exact impl_AreStairs.mono _ _ _ _)
      | (with_reducible exact impl_Stairs_isClimb.mono _ _ _ _ _)
      | (with_reducible exact LeO.refl _)
      | (with_reducible exact LeO.none _)
      | (with_reducible refine LeO.ite ?_ ?_)
      | (with_reducible refine LeO.bind ?_ (fun _ => ?_))
      | exact ih0 _ _
      | exact ih1 _ _ _ _ _
      | exact impl_AreStairs.mono _ _ _ _
      | exact impl_Stairs_isClimb.mono _ _ _ _ _
      | exact LeO.none _
      | refine LeO.ite ?_ ?_
      | refine LeO.bind ?_ (fun _ => ?_)

/-! ### spec_StepsOfClimb: function 35 -/
def spec_StepsOfClimb.l0 : Nat → List Int → Int → List Int → Int → Int → Option (List Int × Bool)
  | 0, _, _, _, _, _ => none
  | k + 1, x6, x7, x14, x15, x16 => if x16 < x15 then (if 0 ≤ x16 then (if x16 < (x14.length : Int) then (if x6.length < 17592186044416 then (spec_StepsOfClimb.l0 k (x6 ++ [wrap64 (x7 + (rd x14 x16))]) (wrap64 (x7 + (rd x14 x16))) x14 x15 (wrap64 (x16 + 1))) else (none)) else (none)) else (none)) else (some (x6, true))
def spec_StepsOfClimb.f (k : Nat) (a0_0 : Int) (l0_1 : List Int) (l0_2 : List Int) (l1 : List Int) : Option (List Int × Bool) := (spec_clBoth.f k a0_0 l0_1 l0_2 l1).bind fun t592 => (if t592 = true then (spec_StepsOfClimb.l0 k ([] : List Int) 0 l1 (l1.length : Int) 0) else (some (([] : List Int), false)))
theorem spec_StepsOfClimb.mono_l : ∀ k, (∀ y0 y1 y2 y3 y4, LeO (spec_StepsOfClimb.l0 k y0 y1 y2 y3 y4) (spec_StepsOfClimb.l0 (k + 1) y0 y1 y2 y3 y4))
  | 0 => fun _ _ _ _ _ r h => by simp [spec_StepsOfClimb.l0] at h
  | k + 1 => by
    have ih0 := spec_StepsOfClimb.mono_l k
    · intro y0 y1 y2 y3 y4
      unfold spec_StepsOfClimb.l0
      repeat' first
      | (with_reducible exact ih0 _ _ _ _ _)
      | (with_reducible exact spec_clBoth.mono _ _ _ _ _)
      | (with_reducible exact LeO.refl _)
      | (with_reducible exact LeO.none _)
      | (with_reducible refine LeO.ite ?_ ?_)
      | (with_reducible refine LeO.bind ?_ (fun _ => ?_))
      | exact ih0 _ _ _ _ _
      | exact spec_clBoth.mono _ _ _ _ _
      | exact LeO.none _
      | refine LeO.ite ?_ ?_
      | refine LeO.bind ?_ (fun _ => ?_)
theorem spec_StepsOfClimb.mono : ∀ a0 a1 a2 a3 k, LeO (spec_StepsOfClimb.f k a0 a1 a2 a3) (spec_StepsOfClimb.f (k + 1) a0 a1 a2 a3) := by
  intro a0 a1 a2 a3 k
  have ih0 := spec_StepsOfClimb.mono_l k
  unfold spec_StepsOfClimb.f
  repeat' first
      | (with_reducible exact ih0 _ _ _ _ _)
      | (with_reducible exact spec_clBoth.mono _ _ _ _ _)
      | (with_reducible exact LeO.refl _)
      | (with_reducible exact LeO.none _)
      | (with_reducible refine LeO.ite ?_ ?_)
      | (with_reducible refine LeO.bind ?_ (fun _ => ?_))
      | exact ih0 _ _ _ _ _
      | exact spec_clBoth.mono _ _ _ _ _
      | exact LeO.none _
      | refine LeO.ite ?_ ?_
      | refine LeO.bind ?_ (fun _ => ?_)

/-! ### spec_NextClimb: function 36 -/
def spec_NextClimb.f (k : Nat) (a0_0 : Int) (l0_1 : List Int) (l0_2 : List Int) (l1 : List Int) : Option (List Int × Bool) := (spec_RankOfClimb.f k a0_0 l0_1 l0_2 l1).bind fun bt598 => (if bt598.2 = true then ((spec_ClimbOfRank.f k a0_0 l0_1 l0_2 (wrap64 (bt598.1 + 1))).bind fun bt600 => (some (bt600.1, bt600.2))) else (some (([] : List Int), false)))
theorem spec_NextClimb.mono : ∀ a0 a1 a2 a3 k, LeO (spec_NextClimb.f k a0 a1 a2 a3) (spec_NextClimb.f (k + 1) a0 a1 a2 a3) := by
  intro a0 a1 a2 a3 k
  unfold spec_NextClimb.f
  repeat' first
      | (with_reducible exact spec_ClimbOfRank.mono _ _ _ _ _)
      | (with_reducible exact spec_RankOfClimb.mono _ _ _ _ _)
      | (with_reducible exact LeO.refl _)
      | (with_reducible exact LeO.none _)
      | (with_reducible refine LeO.ite ?_ ?_)
      | (with_reducible refine LeO.bind ?_ (fun _ => ?_))
      | exact spec_ClimbOfRank.mono _ _ _ _ _
      | exact spec_RankOfClimb.mono _ _ _ _ _
      | exact LeO.none _
      | refine LeO.ite ?_ ?_
      | refine LeO.bind ?_ (fun _ => ?_)

/-! ### spec_clMany: function 73 -/
mutual
def spec_clMany.l0 : Nat → Int → List Int → Int → List Int → List Int → Option (Int)
  | 0, _, _, _, _, _ => none
  | k + 1, x1, x5, x605000, x605001, x605002 => if x1 > 0 then (if 0 ≤ (wrap64 (x605000 + 1)) then (if (wrap64 (x605000 + 1) : Int).toNat ≤ 35184372088832 then (spec_clMany.l1 k x1 (List.replicate (wrap64 (x605000 + 1) : Int).toNat 0) x5 (x5.length : Int) 0 x605000 x605001 x605002) else (none)) else (none)) else (if 0 ≤ x605000 then (if x605000 < (x5.length : Int) then (some (rd x5 x605000)) else (none)) else (none))
def spec_clMany.l1 : Nat → Int → List Int → List Int → Int → Int → Int → List Int → List Int → Option (Int)
  | 0, _, _, _, _, _, _, _, _ => none
  | k + 1, x1, x6, x25, x26, x27, x605000, x605001, x605002 => if x27 < x26 then (if 0 ≤ x27 then (if x27 < (x25.length : Int) then (spec_clMany.l2 k x1 x6 x27 (rd x25 x27) x25 x26 x27 x605001 (x605001.length : Int) 0 x605000 x605001 x605002) else (none)) else (none)) else (spec_clMany.l0 k (wrap64 (x1 - 1)) x6 x605000 x605001 x605002)
def spec_clMany.l2 : Nat → Int → List Int → Int → Int → List Int → Int → Int → List Int → Int → Int → Int → List Int → List Int → Option (Int)
  | 0, _, _, _, _, _, _, _, _, _, _, _, _, _ => none
  | k + 1, x1, x6, x7, x8, x25, x26, x27, x33, x34, x35, x605000, x605001, x605002 => if x35 < x34 then (if 0 ≤ x35 then (if x35 < (x33.length : Int) then (if x8 > 0 then ((spec_clStands.f k x605000 x605001 x605002 (wrap64 (x7 + (rd x33 x35)))).bind fun t615 => (if t615 = true then (if 0 ≤ (wrap64 (x7 + (rd x33 x35))) then (if (wrap64 (x7 + (rd x33 x35))) < (x6.length : Int) then ((spec_l1Least.f (wrap64 ((rd x6 (wrap64 (x7 + (rd x33 x35)))) + x8)) 1000000000000001).bind fun t617 => (spec_clMany.l2 k x1 (x6.set ((wrap64 (x7 + (rd x33 x35))) : Int).toNat t617) x7 x8 x25 x26 x27 x33 x34 (wrap64 (x35 + 1)) x605000 x605001 x605002)) else (none)) else (none)) else (spec_clMany.l2 k x1 x6 x7 x8 x25 x26 x27 x33 x34 (wrap64 (x35 + 1)) x605000 x605001 x605002))) else (spec_clMany.l2 k x1 x6 x7 x8 x25 x26 x27 x33 x34 (wrap64 (x35 + 1)) x605000 x605001 x605002)) else (none)) else (none)) else (spec_clMany.l1 k x1 x6 x25 x26 (wrap64 (x27 + 1)) x605000 x605001 x605002)
end
def spec_clMany.f (k : Nat) (a0_0 : Int) (l0_1 : List Int) (l0_2 : List Int) (a1 : Int) : Option (Int) := if 0 ≤ (wrap64 (a0_0 + 1)) then (if (wrap64 (a0_0 + 1) : Int).toNat ≤ 35184372088832 then ((some (List.replicate (wrap64 (a0_0 + 1) : Int).toNat 0 : List Int)).bind fun y605 => (if 0 < (y605.length : Int) then (spec_clMany.l0 k a1 (y605.set (0 : Int).toNat 1) a0_0 l0_1 l0_2) else (none))) else (none)) else (none)
theorem spec_clMany.mono_l : ∀ k, (∀ y0 y1 y2 y3 y4, LeO (spec_clMany.l0 k y0 y1 y2 y3 y4) (spec_clMany.l0 (k + 1) y0 y1 y2 y3 y4)) ∧ (∀ y0 y1 y2 y3 y4 y5 y6 y7, LeO (spec_clMany.l1 k y0 y1 y2 y3 y4 y5 y6 y7) (spec_clMany.l1 (k + 1) y0 y1 y2 y3 y4 y5 y6 y7)) ∧ (∀ y0 y1 y2 y3 y4 y5 y6 y7 y8 y9 y10 y11 y12, LeO (spec_clMany.l2 k y0 y1 y2 y3 y4 y5 y6 y7 y8 y9 y10 y11 y12) (spec_clMany.l2 (k + 1) y0 y1 y2 y3 y4 y5 y6 y7 y8 y9 y10 y11 y12))
  | 0 => ⟨fun _ _ _ _ _ r h => by simp [spec_clMany.l0] at h, fun _ _ _ _ _ _ _ _ r h => by simp [spec_clMany.l1] at h, fun _ _ _ _ _ _ _ _ _ _ _ _ _ r h => by simp [spec_clMany.l2] at h⟩
  | k + 1 => by
    obtain ⟨ih0, ih1, ih2⟩ := spec_clMany.mono_l k
    refine ⟨?_, ?_, ?_⟩
    · intro y0 y1 y2 y3 y4
      unfold spec_clMany.l0
      repeat' first
      | (with_reducible exact ih0 _ _ _ _ _)
      | (with_reducible exact ih1 _ _ _ _ _ _ _ _)
      | (with_reducible exact ih2 _ _ _ _ _ _ _ _ _ _ _ _ _)
      | (with_reducible exact spec_clStands.mono _ _ _ _ _)
      | (with_reducible exact LeO.refl _)
      | (with_reducible exact LeO.none _)
      | (with_reducible refine LeO.ite ?_ ?_)
      | (with_reducible refine LeO.bind ?_ (fun _ => ?_))
      | exact ih0 _ _ _ _ _
      | exact ih1 _ _ _ _ _ _ _ _
      | exact ih2 _ _ _ _ _ _ _ _ _ _ _ _ _
      | exact spec_clStands.mono _ _ _ _ _
      | exact LeO.none _
      | refine LeO.ite ?_ ?_
      | refine LeO.bind ?_ (fun _ => ?_)
    · intro y0 y1 y2 y3 y4 y5 y6 y7
      unfold spec_clMany.l1
      repeat' first
      | (with_reducible exact ih0 _ _ _ _ _)
      | (with_reducible exact ih1 _ _ _ _ _ _ _ _)
      | (with_reducible exact ih2 _ _ _ _ _ _ _ _ _ _ _ _ _)
      | (with_reducible exact spec_clStands.mono _ _ _ _ _)
      | (with_reducible exact LeO.refl _)
      | (with_reducible exact LeO.none _)
      | (with_reducible refine LeO.ite ?_ ?_)
      | (with_reducible refine LeO.bind ?_ (fun _ => ?_))
      | exact ih0 _ _ _ _ _
      | exact ih1 _ _ _ _ _ _ _ _
      | exact ih2 _ _ _ _ _ _ _ _ _ _ _ _ _
      | exact spec_clStands.mono _ _ _ _ _
      | exact LeO.none _
      | refine LeO.ite ?_ ?_
      | refine LeO.bind ?_ (fun _ => ?_)
    · intro y0 y1 y2 y3 y4 y5 y6 y7 y8 y9 y10 y11 y12
      unfold spec_clMany.l2
      repeat' first
      | (with_reducible exact ih0 _ _ _ _ _)
      | (with_reducible exact ih1 _ _ _ _ _ _ _ _)
      | (with_reducible exact ih2 _ _ _ _ _ _ _ _ _ _ _ _ _)
      | (with_reducible exact spec_clStands.mono _ _ _ _ _)
      | (with_reducible exact LeO.refl _)
      | (with_reducible exact LeO.none _)
      | (with_reducible refine LeO.ite ?_ ?_)
      | (with_reducible refine LeO.bind ?_ (fun _ => ?_))
      | exact ih0 _ _ _ _ _
      | exact ih1 _ _ _ _ _ _ _ _
      | exact ih2 _ _ _ _ _ _ _ _ _ _ _ _ _
      | exact spec_clStands.mono _ _ _ _ _
      | exact LeO.none _
      | refine LeO.ite ?_ ?_
      | refine LeO.bind ?_ (fun _ => ?_)
theorem spec_clMany.mono : ∀ a0 a1 a2 a3 k, LeO (spec_clMany.f k a0 a1 a2 a3) (spec_clMany.f (k + 1) a0 a1 a2 a3) := by
  intro a0 a1 a2 a3 k
  obtain ⟨ih0, ih1, ih2⟩ := spec_clMany.mono_l k
  unfold spec_clMany.f
  repeat' first
      | (with_reducible exact ih0 _ _ _ _ _)
      | (with_reducible exact ih1 _ _ _ _ _ _ _ _)
      | (with_reducible exact ih2 _ _ _ _ _ _ _ _ _ _ _ _ _)
      | (with_reducible exact spec_clStands.mono _ _ _ _ _)
      | (with_reducible exact LeO.refl _)
      | (with_reducible exact LeO.none _)
      | (with_reducible refine LeO.ite ?_ ?_)
      | (with_reducible refine LeO.bind ?_ (fun _ => ?_))
      | exact ih0 _ _ _ _ _
      | exact ih1 _ _ _ _ _ _ _ _
      | exact ih2 _ _ _ _ _ _ _ _ _ _ _ _ _
      | exact spec_clStands.mono _ _ _ _ _
      | exact LeO.none _
      | refine LeO.ite ?_ ?_
      | refine LeO.bind ?_ (fun _ => ?_)

/-! ### spec_CountByStrides: function 37 -/
def spec_CountByStrides.j0 : Nat → Int → Bool → Int → List Int → List Int → Option (Int × Bool)
  | 0, _, _, _, _, _ => none
  | k + 1, x1, x12, x620000, x620001, x620002 => if x12 = true then (some (0, false)) else (if x1 > x620000 then (some (0, true)) else ((spec_clMany.f k x620000 x620001 x620002 x1).bind fun t621 => (some (t621, true))))
def spec_CountByStrides.f (k : Nat) (a0_0 : Int) (l0_1 : List Int) (l0_2 : List Int) (a1 : Int) : Option (Int × Bool) := (spec_clCounted.f k a0_0 l0_1 l0_2).bind fun t620 => (if t620 = true then (spec_CountByStrides.j0 k a1 (decide (a1 < 0)) a0_0 l0_1 l0_2) else (spec_CountByStrides.j0 k a1 true a0_0 l0_1 l0_2))
theorem spec_CountByStrides.mono_l : ∀ k, (∀ y0 y1 y2 y3 y4, LeO (spec_CountByStrides.j0 k y0 y1 y2 y3 y4) (spec_CountByStrides.j0 (k + 1) y0 y1 y2 y3 y4))
  | 0 => fun _ _ _ _ _ r h => by simp [spec_CountByStrides.j0] at h
  | k + 1 => by
    have ih0 := spec_CountByStrides.mono_l k
    · intro y0 y1 y2 y3 y4
      unfold spec_CountByStrides.j0
      repeat' first
      | (with_reducible exact ih0 _ _ _ _ _)
      | (with_reducible exact spec_clCounted.mono _ _ _ _)
      | (with_reducible exact spec_clMany.mono _ _ _ _ _)
      | (with_reducible exact LeO.refl _)
      | (with_reducible exact LeO.none _)
      | (with_reducible refine LeO.ite ?_ ?_)
      | (with_reducible refine LeO.bind ?_ (fun _ => ?_))
      | exact ih0 _ _ _ _ _
      | exact spec_clCounted.mono _ _ _ _
      | exact spec_clMany.mono _ _ _ _ _
      | exact LeO.none _
      | refine LeO.ite ?_ ?_
      | refine LeO.bind ?_ (fun _ => ?_)
theorem spec_CountByStrides.mono : ∀ a0 a1 a2 a3 k, LeO (spec_CountByStrides.f k a0 a1 a2 a3) (spec_CountByStrides.f (k + 1) a0 a1 a2 a3) := by
  intro a0 a1 a2 a3 k
  have ih0 := spec_CountByStrides.mono_l k
  unfold spec_CountByStrides.f
  repeat' first
      | (with_reducible exact ih0 _ _ _ _ _)
      | (with_reducible exact spec_clCounted.mono _ _ _ _)
      | (with_reducible exact spec_clMany.mono _ _ _ _ _)
      | (with_reducible exact LeO.refl _)
      | (with_reducible exact LeO.none _)
      | (with_reducible refine LeO.ite ?_ ?_)
      | (with_reducible refine LeO.bind ?_ (fun _ => ?_))
      | exact ih0 _ _ _ _ _
      | exact spec_clCounted.mono _ _ _ _
      | exact spec_clMany.mono _ _ _ _ _
      | exact LeO.none _
      | refine LeO.ite ?_ ?_
      | refine LeO.bind ?_ (fun _ => ?_)

/-! ### laws_lRises: function 38 -/
def laws_lRises.l0 : Nat → List Int → Int → Option (Bool)
  | 0, _, _ => none
  | k + 1, x0, x3 => if x3 < (x0.length : Int) then (if 0 ≤ (wrap64 (x3 - 1)) then (if (wrap64 (x3 - 1)) < (x0.length : Int) then (if 0 ≤ x3 then (if (rd x0 (wrap64 (x3 - 1))) ≥ (rd x0 x3) then (some false) else (laws_lRises.l0 k x0 (wrap64 (x3 + 1)))) else (none)) else (none)) else (none)) else (some true)
def laws_lRises.f (k : Nat) (l0 : List Int) : Option (Bool) := laws_lRises.l0 k l0 1
theorem laws_lRises.mono_l : ∀ k, (∀ y0 y1, LeO (laws_lRises.l0 k y0 y1) (laws_lRises.l0 (k + 1) y0 y1))
  | 0 => fun _ _ r h => by simp [laws_lRises.l0] at h
  | k + 1 => by
    have ih0 := laws_lRises.mono_l k
    · intro y0 y1
      unfold laws_lRises.l0
      repeat' first
      | (with_reducible exact ih0 _ _)
      | (with_reducible exact LeO.refl _)
      | (with_reducible exact LeO.none _)
      | (with_reducible refine LeO.ite ?_ ?_)
      | (with_reducible refine LeO.bind ?_ (fun _ => ?_))
      | exact ih0 _ _
      | exact LeO.none _
      | refine LeO.ite ?_ ?_
      | refine LeO.bind ?_ (fun _ => ?_)
theorem laws_lRises.mono : ∀ a0 k, LeO (laws_lRises.f k a0) (laws_lRises.f (k + 1) a0) := by
  intro a0 k
  have ih0 := laws_lRises.mono_l k
  unfold laws_lRises.f
  repeat' first
      | (with_reducible exact ih0 _ _)
      | (with_reducible exact LeO.refl _)
      | (with_reducible exact LeO.none _)
      | (with_reducible refine LeO.ite ?_ ?_)
      | (with_reducible refine LeO.bind ?_ (fun _ => ?_))
      | exact ih0 _ _
      | exact LeO.none _
      | refine LeO.ite ?_ ?_
      | refine LeO.bind ?_ (fun _ => ?_)

/-! ### laws_lHas: function 39 -/
def laws_lHas.l0 : Nat → Int → List Int → Int → Int → Option (Bool)
  | 0, _, _, _, _ => none
  | k + 1, x1, x7, x8, x9 => if x9 < x8 then (if 0 ≤ x9 then (if x9 < (x7.length : Int) then (if (rd x7 x9) = x1 then (some true) else (laws_lHas.l0 k x1 x7 x8 (wrap64 (x9 + 1)))) else (none)) else (none)) else (some false)
def laws_lHas.f (k : Nat) (l0 : List Int) (a1 : Int) : Option (Bool) := laws_lHas.l0 k a1 l0 (l0.length : Int) 0
theorem laws_lHas.mono_l : ∀ k, (∀ y0 y1 y2 y3, LeO (laws_lHas.l0 k y0 y1 y2 y3) (laws_lHas.l0 (k + 1) y0 y1 y2 y3))
  | 0 => fun _ _ _ _ r h => by simp [laws_lHas.l0] at h
  | k + 1 => by
    have ih0 := laws_lHas.mono_l k
    · intro y0 y1 y2 y3
      unfold laws_lHas.l0
      repeat' first
      | (with_reducible exact ih0 _ _ _ _)
      | (with_reducible exact LeO.refl _)
      | (with_reducible exact LeO.none _)
      | (with_reducible refine LeO.ite ?_ ?_)
      | (with_reducible refine LeO.bind ?_ (fun _ => ?_))
      | exact ih0 _ _ _ _
      | exact LeO.none _
      | refine LeO.ite ?_ ?_
      | refine LeO.bind ?_ (fun _ => ?_)
theorem laws_lHas.mono : ∀ a0 a1 k, LeO (laws_lHas.f k a0 a1) (laws_lHas.f (k + 1) a0 a1) := by
  intro a0 a1 k
  have ih0 := laws_lHas.mono_l k
  unfold laws_lHas.f
  repeat' first
      | (with_reducible exact ih0 _ _ _ _)
      | (with_reducible exact LeO.refl _)
      | (with_reducible exact LeO.none _)
      | (with_reducible refine LeO.ite ?_ ?_)
      | (with_reducible refine LeO.bind ?_ (fun _ => ?_))
      | exact ih0 _ _ _ _
      | exact LeO.none _
      | refine LeO.ite ?_ ?_
      | refine LeO.bind ?_ (fun _ => ?_)

/-! ### laws_lSum: function 40 -/
def laws_lSum.l0 : Nat → Int → List Int → Int → Int → Option (Int)
  | 0, _, _, _, _ => none
  | k + 1, x3, x6, x7, x8 => if x8 < x7 then (if 0 ≤ x8 then (if x8 < (x6.length : Int) then (laws_lSum.l0 k (wrap64 (x3 + (rd x6 x8))) x6 x7 (wrap64 (x8 + 1))) else (none)) else (none)) else (some x3)
def laws_lSum.f (k : Nat) (l0 : List Int) : Option (Int) := laws_lSum.l0 k 0 l0 (l0.length : Int) 0
theorem laws_lSum.mono_l : ∀ k, (∀ y0 y1 y2 y3, LeO (laws_lSum.l0 k y0 y1 y2 y3) (laws_lSum.l0 (k + 1) y0 y1 y2 y3))
  | 0 => fun _ _ _ _ r h => by simp [laws_lSum.l0] at h
  | k + 1 => by
    have ih0 := laws_lSum.mono_l k
    · intro y0 y1 y2 y3
      unfold laws_lSum.l0
      repeat' first
      | (with_reducible exact ih0 _ _ _ _)
      | (with_reducible exact LeO.refl _)
      | (with_reducible exact LeO.none _)
      | (with_reducible refine LeO.ite ?_ ?_)
      | (with_reducible refine LeO.bind ?_ (fun _ => ?_))
      | exact ih0 _ _ _ _
      | exact LeO.none _
      | refine LeO.ite ?_ ?_
      | refine LeO.bind ?_ (fun _ => ?_)
theorem laws_lSum.mono : ∀ a0 k, LeO (laws_lSum.f k a0) (laws_lSum.f (k + 1) a0) := by
  intro a0 k
  have ih0 := laws_lSum.mono_l k
  unfold laws_lSum.f
  repeat' first
      | (with_reducible exact ih0 _ _ _ _)
      | (with_reducible exact LeO.refl _)
      | (with_reducible exact LeO.none _)
      | (with_reducible refine LeO.ite ?_ ?_)
      | (with_reducible refine LeO.bind ?_ (fun _ => ?_))
      | exact ih0 _ _ _ _
      | exact LeO.none _
      | refine LeO.ite ?_ ?_
      | refine LeO.bind ?_ (fun _ => ?_)

/-! ### laws_FnClimbsRankedOfAll: function 4 -/
mutual
def laws_FnClimbsRankedOfAll.j0 : Nat → Int → List Int → Int → List Int → Bool → Int → Bool → List Int → Bool → Int → Int → List Int → Bool → Int → List Int → List Int → Int → List Int → List Int → Int → List Int → List Int → Option (Bool)
  | 0, _, _, _, _, _, _, _, _, _, _, _, _, _, _, _, _, _, _, _, _, _, _ => none
  | k + 1, x1, x3, x5, x13, x14, x17, x18, x21, x22, x25, x29, x33, x242, x627000, x627001, x627002, x628000, x628001, x628002, x629000, x629001, x629002 => if x242 = true then (some false) else (if x14 = true then ((impl_IsClimb.f k x627000 x627001 x627002 x13).bind fun bt668 => ((impl_RankOfClimb.f k x627000 x627001 x627002 x13).bind fun bt670 => ((impl_NextClimb.f k x627000 x627001 x627002 x13).bind fun bt672 => (if bt668.2 = true then (if bt668.1 = true then (if bt670.2 = true then (if bt670.1 = x1 then ((laws_lBefore.f k x21 x13).bind fun t676 => (if t676 = true then (if (x13.length : Int) < x25 then (some false) else (if (x13.length : Int) > x29 then (some false) else (if (bt672.2 != (decide ((wrap64 (x1 + 1)) < x17))) = true then (some false) else (if bt672.2 = true then ((laws_lBefore.f k x13 bt672.1).bind fun t677 => (if t677 = true then ((laws_lSame.f k x13 bt672.1).bind fun t678 => (if t678 = true then (some false) else (laws_FnClimbsRankedOfAll.j1 k x3 x5 x17 x18 x21 x22 x25 x29 x33 x627000 x627001 x627002 x628000 x628001 x628002 x629000 x629001 x629002))) else (some false))) else (laws_FnClimbsRankedOfAll.j1 k x3 x5 x17 x18 x21 x22 x25 x29 x33 x627000 x627001 x627002 x628000 x628001 x628002 x629000 x629001 x629002))))) else (some false))) else (some false)) else (some false)) else (some false)) else (some false))))) else (laws_FnClimbsRankedOfAll.j1 k x3 x5 x17 x18 x21 x22 x25 x29 x33 x627000 x627001 x627002 x628000 x628001 x628002 x629000 x629001 x629002))
def laws_FnClimbsRankedOfAll.j1 : Nat → List Int → Int → Int → Bool → List Int → Bool → Int → Int → List Int → Int → List Int → List Int → Int → List Int → List Int → Int → List Int → List Int → Option (Bool)
  | 0, _, _, _, _, _, _, _, _, _, _, _, _, _, _, _, _, _, _ => none
  | k + 1, x3, x5, x17, x18, x21, x22, x25, x29, x33, x627000, x627001, x627002, x628000, x628001, x628002, x629000, x629001, x629002 => if x22 = true then ((impl_IsClimb.f k x627000 x627001 x627002 x21).bind fun bt679 => ((impl_IsClimb.f k x627000 x627001 x627002 x33).bind fun bt681 => (if bt679.2 = true then (if bt679.1 = true then (if bt681.2 = true then (if bt681.1 = true then (if (x33.length : Int) = x25 then (if x25 > x29 then (some false) else (if x25 < 1 then (some false) else (laws_FnClimbsRankedOfAll.j2 k x3 x5 x17 x18 x22 x25 x29 x627000 x627001 x627002 x628000 x628001 x628002 x629000 x629001 x629002))) else (some false)) else (some false)) else (some false)) else (some false)) else (some false)))) else (laws_FnClimbsRankedOfAll.j2 k x3 x5 x17 x18 x22 x25 x29 x627000 x627001 x627002 x628000 x628001 x628002 x629000 x629001 x629002)
def laws_FnClimbsRankedOfAll.j2 : Nat → List Int → Int → Int → Bool → Bool → Int → Int → Int → List Int → List Int → Int → List Int → List Int → Int → List Int → List Int → Option (Bool)
  | 0, _, _, _, _, _, _, _, _, _, _, _, _, _, _, _, _ => none
  | k + 1, x3, x5, x17, x18, x22, x25, x29, x627000, x627001, x627002, x628000, x628001, x628002, x629000, x629001, x629002 => if x18 = true then ((impl_TurnStairs.f k x627000 x627001 x627002).bind fun bt683 => ((impl_CountClimbs.f k bt683.1 bt683.2.1 bt683.2.2.1).bind fun bt692 => (laws_FnClimbsRankedOfAll.l0 k x3 x5 x17 x22 x25 x29 bt683.2.2.2 bt692.1 bt692.2 0 0 x627000 x627001 x627002 x628000 x628001 x628002 x629000 x629001 x629002))) else (laws_FnClimbsRankedOfAll.j4 k x3 x5 x628000 x628001 x628002 x629000 x629001 x629002)
def laws_FnClimbsRankedOfAll.j4 : Nat → List Int → Int → Int → List Int → List Int → Int → List Int → List Int → Option (Bool)
  | 0, _, _, _, _, _, _, _, _ => none
  | k + 1, x3, x5, x628000, x628001, x628002, x629000, x629001, x629002 => (impl_RankOfClimb.f k x628000 x628001 x628002 x3).bind fun bt696 => ((spec_RankOfClimb.f k x628000 x628001 x628002 x3).bind fun bt698 => ((impl_IsClimb.f k x628000 x628001 x628002 x3).bind fun bt700 => ((spec_IsClimb.f k x628000 x628001 x628002 x3).bind fun bt702 => ((impl_StepsOfClimb.f k x628000 x628001 x628002 x3).bind fun bt704 => ((spec_StepsOfClimb.f k x628000 x628001 x628002 x3).bind fun bt708 => ((impl_NextClimb.f k x628000 x628001 x628002 x3).bind fun bt712 => ((spec_NextClimb.f k x628000 x628001 x628002 x3).bind fun bt716 => ((impl_CountByStrides.f k x629000 x629001 x629002 x5).bind fun bt720 => ((spec_CountByStrides.f k x629000 x629001 x629002 x5).bind fun bt722 => (if (bt696.2 != bt698.2) = true then (laws_FnClimbsRankedOfAll.j5 k x3 bt696.1 bt696.2 bt704.1 bt704.2 true x628000 x628001 x628002) else (if bt696.1 = bt698.1 then (if (bt700.2 != bt702.2) = true then (laws_FnClimbsRankedOfAll.j5 k x3 bt696.1 bt696.2 bt704.1 bt704.2 true x628000 x628001 x628002) else (if (bt700.1 != bt702.1) = true then (laws_FnClimbsRankedOfAll.j5 k x3 bt696.1 bt696.2 bt704.1 bt704.2 true x628000 x628001 x628002) else (if (bt704.2 != bt708.2) = true then (laws_FnClimbsRankedOfAll.j5 k x3 bt696.1 bt696.2 bt704.1 bt704.2 true x628000 x628001 x628002) else ((laws_lSame.f k bt704.1 bt708.1).bind fun t724 => (if t724 = true then (if (bt712.2 != bt716.2) = true then (laws_FnClimbsRankedOfAll.j5 k x3 bt696.1 bt696.2 bt704.1 bt704.2 true x628000 x628001 x628002) else ((laws_lSame.f k bt712.1 bt716.1).bind fun t725 => (if t725 = true then (if (bt720.2 != bt722.2) = true then (laws_FnClimbsRankedOfAll.j5 k x3 bt696.1 bt696.2 bt704.1 bt704.2 true x628000 x628001 x628002) else (if bt720.1 = bt722.1 then (if bt700.2 = true then (if (bt704.2 != bt700.1) = true then (laws_FnClimbsRankedOfAll.j5 k x3 bt696.1 bt696.2 bt704.1 bt704.2 true x628000 x628001 x628002) else (if bt696.2 = true then (laws_FnClimbsRankedOfAll.j5 k x3 bt696.1 bt696.2 bt704.1 bt704.2 (!bt704.2) x628000 x628001 x628002) else (laws_FnClimbsRankedOfAll.j5 k x3 bt696.1 bt696.2 bt704.1 bt704.2 false x628000 x628001 x628002))) else (if (bt704.2 != false) = true then (laws_FnClimbsRankedOfAll.j5 k x3 bt696.1 bt696.2 bt704.1 bt704.2 true x628000 x628001 x628002) else (if bt696.2 = true then (laws_FnClimbsRankedOfAll.j5 k x3 bt696.1 bt696.2 bt704.1 bt704.2 (!bt704.2) x628000 x628001 x628002) else (laws_FnClimbsRankedOfAll.j5 k x3 bt696.1 bt696.2 bt704.1 bt704.2 false x628000 x628001 x628002)))) else (laws_FnClimbsRankedOfAll.j5 k x3 bt696.1 bt696.2 bt704.1 bt704.2 true x628000 x628001 x628002))) else (laws_FnClimbsRankedOfAll.j5 k x3 bt696.1 bt696.2 bt704.1 bt704.2 true x628000 x628001 x628002)))) else (laws_FnClimbsRankedOfAll.j5 k x3 bt696.1 bt696.2 bt704.1 bt704.2 true x628000 x628001 x628002)))))) else (laws_FnClimbsRankedOfAll.j5 k x3 bt696.1 bt696.2 bt704.1 bt704.2 true x628000 x628001 x628002))))))))))))
def laws_FnClimbsRankedOfAll.j5 : Nat → List Int → Int → Bool → List Int → Bool → Bool → Int → List Int → List Int → Option (Bool)
  | 0, _, _, _, _, _, _, _, _, _ => none
  | k + 1, x3, x55, x56, x63, x64, x565, x628000, x628001, x628002 => if x565 = true then (some false) else (if x56 = true then ((impl_ClimbOfRank.f k x628000 x628001 x628002 x55).bind fun bt726 => (if bt726.2 = true then ((laws_lSame.f k bt726.1 x3).bind fun t730 => (if t730 = true then (laws_FnClimbsRankedOfAll.j6 k x3 x63 x64 x628000 x628001 x628002) else (some false))) else (some false))) else (laws_FnClimbsRankedOfAll.j6 k x3 x63 x64 x628000 x628001 x628002))
def laws_FnClimbsRankedOfAll.j6 : Nat → List Int → List Int → Bool → Int → List Int → List Int → Option (Bool)
  | 0, _, _, _, _, _, _ => none
  | k + 1, x3, x63, x64, x628000, x628001, x628002 => if x64 = true then (if (x63.length : Int) = (x3.length : Int) then ((laws_lRises.f k x63).bind fun t731 => (if t731 = true then (if 0 ≤ (wrap64 ((x63.length : Int) - 1)) then (if (wrap64 ((x63.length : Int) - 1)) < (x63.length : Int) then (laws_FnClimbsRankedOfAll.j7 k x3 x63 ((rd x63 (wrap64 ((x63.length : Int) - 1))) != x628000) x628000 x628001 x628002) else (none)) else (none)) else (laws_FnClimbsRankedOfAll.j7 k x3 x63 true x628000 x628001 x628002))) else (laws_FnClimbsRankedOfAll.j7 k x3 x63 true x628000 x628001 x628002)) else (some true)
def laws_FnClimbsRankedOfAll.j7 : Nat → List Int → List Int → Bool → Int → List Int → List Int → Option (Bool)
  | 0, _, _, _, _, _, _ => none
  | k + 1, x3, x63, x602, x628000, x628001, x628002 => if x602 = true then (some false) else (laws_FnClimbsRankedOfAll.l1 k x3 x63 (x63.length : Int) 0 x628000 x628001 x628002)
def laws_FnClimbsRankedOfAll.l1 : Nat → List Int → List Int → Int → Int → Int → List Int → List Int → Option (Bool)
  | 0, _, _, _, _, _, _, _ => none
  | k + 1, x3, x603, x604, x605, x628000, x628001, x628002 => if x605 < x604 then (if 0 ≤ x605 then (if x605 < (x603.length : Int) then ((laws_lHas.f k x628002 (rd x603 x605)).bind fun t734 => (if t734 = true then (some false) else (if 0 ≤ (wrap64 (x605 + 1)) then (if (wrap64 (x605 + 1)) ≤ (x3.length : Int) then ((laws_lSum.f k (x3.take ((wrap64 (x605 + 1)) : Int).toNat)).bind fun t736 => (if (rd x603 x605) = t736 then (laws_FnClimbsRankedOfAll.l1 k x3 x603 x604 (wrap64 (x605 + 1)) x628000 x628001 x628002) else (some false))) else (none)) else (none)))) else (none)) else (none)) else (some true)
def laws_FnClimbsRankedOfAll.l0 : Nat → List Int → Int → Int → Bool → Int → Int → Bool → Int → Bool → Int → Int → Int → List Int → List Int → Int → List Int → List Int → Int → List Int → List Int → Option (Bool)
  | 0, _, _, _, _, _, _, _, _, _, _, _, _, _, _, _, _, _, _, _, _ => none
  | k + 1, x3, x5, x17, x22, x25, x29, x48, x49, x50, x51, x52, x627000, x627001, x627002, x628000, x628001, x628002, x629000, x629001, x629002 => if x52 ≤ x627000 then ((impl_CountByStrides.f k x627000 x627001 x627002 x52).bind fun bt694 => (if bt694.2 = true then (if bt694.1 < 0 then (some false) else (if x22 = true then (if x52 < x25 then (if bt694.1 = 0 then (if x52 = x25 then (if bt694.1 < 1 then (some false) else (laws_FnClimbsRankedOfAll.l0 k x3 x5 x17 x22 x25 x29 x48 x49 x50 (wrap64 (x51 + bt694.1)) (wrap64 (x52 + 1)) x627000 x627001 x627002 x628000 x628001 x628002 x629000 x629001 x629002)) else (if x52 = x29 then (if bt694.1 < 1 then (some false) else (laws_FnClimbsRankedOfAll.l0 k x3 x5 x17 x22 x25 x29 x48 x49 x50 (wrap64 (x51 + bt694.1)) (wrap64 (x52 + 1)) x627000 x627001 x627002 x628000 x628001 x628002 x629000 x629001 x629002)) else (laws_FnClimbsRankedOfAll.l0 k x3 x5 x17 x22 x25 x29 x48 x49 x50 (wrap64 (x51 + bt694.1)) (wrap64 (x52 + 1)) x627000 x627001 x627002 x628000 x628001 x628002 x629000 x629001 x629002))) else (some false)) else (if x52 > x29 then (if bt694.1 = 0 then (if x52 = x25 then (if bt694.1 < 1 then (some false) else (laws_FnClimbsRankedOfAll.l0 k x3 x5 x17 x22 x25 x29 x48 x49 x50 (wrap64 (x51 + bt694.1)) (wrap64 (x52 + 1)) x627000 x627001 x627002 x628000 x628001 x628002 x629000 x629001 x629002)) else (if x52 = x29 then (if bt694.1 < 1 then (some false) else (laws_FnClimbsRankedOfAll.l0 k x3 x5 x17 x22 x25 x29 x48 x49 x50 (wrap64 (x51 + bt694.1)) (wrap64 (x52 + 1)) x627000 x627001 x627002 x628000 x628001 x628002 x629000 x629001 x629002)) else (laws_FnClimbsRankedOfAll.l0 k x3 x5 x17 x22 x25 x29 x48 x49 x50 (wrap64 (x51 + bt694.1)) (wrap64 (x52 + 1)) x627000 x627001 x627002 x628000 x628001 x628002 x629000 x629001 x629002))) else (some false)) else (if x52 = x25 then (if bt694.1 < 1 then (some false) else (laws_FnClimbsRankedOfAll.l0 k x3 x5 x17 x22 x25 x29 x48 x49 x50 (wrap64 (x51 + bt694.1)) (wrap64 (x52 + 1)) x627000 x627001 x627002 x628000 x628001 x628002 x629000 x629001 x629002)) else (if x52 = x29 then (if bt694.1 < 1 then (some false) else (laws_FnClimbsRankedOfAll.l0 k x3 x5 x17 x22 x25 x29 x48 x49 x50 (wrap64 (x51 + bt694.1)) (wrap64 (x52 + 1)) x627000 x627001 x627002 x628000 x628001 x628002 x629000 x629001 x629002)) else (laws_FnClimbsRankedOfAll.l0 k x3 x5 x17 x22 x25 x29 x48 x49 x50 (wrap64 (x51 + bt694.1)) (wrap64 (x52 + 1)) x627000 x627001 x627002 x628000 x628001 x628002 x629000 x629001 x629002))))) else (laws_FnClimbsRankedOfAll.l0 k x3 x5 x17 x22 x25 x29 x48 x49 x50 (wrap64 (x51 + bt694.1)) (wrap64 (x52 + 1)) x627000 x627001 x627002 x628000 x628001 x628002 x629000 x629001 x629002))) else (some false))) else (if x48 = true then (if x50 = true then (if x49 = x17 then (if x51 = x17 then (laws_FnClimbsRankedOfAll.j4 k x3 x5 x628000 x628001 x628002 x629000 x629001 x629002) else (some false)) else (some false)) else (some false)) else (some false))
end
def laws_FnClimbsRankedOfAll.f (k : Nat) (a0_0 : Int) (l0_1 : List Int) (l0_2 : List Int) (a1 : Int) (a2_0 : Int) (l2_1 : List Int) (l2_2 : List Int) (l3 : List Int) (a4_0 : Int) (l4_1 : List Int) (l4_2 : List Int) (a5 : Int) : Option (Bool) := if (l3.length : Int) > 10000 then (some true) else ((impl_ClimbOfRank.f k a0_0 l0_1 l0_2 a1).bind fun bt629 => ((spec_ClimbOfRank.f k a0_0 l0_1 l0_2 a1).bind fun bt633 => ((impl_CountClimbs.f k a0_0 l0_1 l0_2).bind fun bt637 => ((spec_CountClimbs.f k a0_0 l0_1 l0_2).bind fun bt639 => ((impl_FirstClimb.f k a0_0 l0_1 l0_2).bind fun bt641 => ((spec_FirstClimb.f k a0_0 l0_1 l0_2).bind fun bt645 => ((impl_FewestStrides.f k a0_0 l0_1 l0_2).bind fun bt649 => ((spec_FewestStrides.f k a0_0 l0_1 l0_2).bind fun bt651 => ((impl_MostStrides.f k a0_0 l0_1 l0_2).bind fun bt653 => ((spec_MostStrides.f k a0_0 l0_1 l0_2).bind fun bt655 => ((impl_FirstFewest.f k a0_0 l0_1 l0_2).bind fun bt657 => ((spec_FirstFewest.f k a0_0 l0_1 l0_2).bind fun bt661 => (if (bt629.2 != bt633.2) = true then (laws_FnClimbsRankedOfAll.j0 k a1 l3 a5 bt629.1 bt629.2 bt637.1 bt637.2 bt641.1 bt641.2 bt649.1 bt653.1 bt657.1 true a0_0 l0_1 l0_2 a2_0 l2_1 l2_2 a4_0 l4_1 l4_2) else ((laws_lSame.f k bt629.1 bt633.1).bind fun t665 => (if t665 = true then (if (bt637.2 != bt639.2) = true then (laws_FnClimbsRankedOfAll.j0 k a1 l3 a5 bt629.1 bt629.2 bt637.1 bt637.2 bt641.1 bt641.2 bt649.1 bt653.1 bt657.1 true a0_0 l0_1 l0_2 a2_0 l2_1 l2_2 a4_0 l4_1 l4_2) else (if bt637.1 = bt639.1 then (if (bt641.2 != bt645.2) = true then (laws_FnClimbsRankedOfAll.j0 k a1 l3 a5 bt629.1 bt629.2 bt637.1 bt637.2 bt641.1 bt641.2 bt649.1 bt653.1 bt657.1 true a0_0 l0_1 l0_2 a2_0 l2_1 l2_2 a4_0 l4_1 l4_2) else ((laws_lSame.f k bt641.1 bt645.1).bind fun t666 => (if t666 = true then (if (bt649.2 != bt651.2) = true then (laws_FnClimbsRankedOfAll.j0 k a1 l3 a5 bt629.1 bt629.2 bt637.1 bt637.2 bt641.1 bt641.2 bt649.1 bt653.1 bt657.1 true a0_0 l0_1 l0_2 a2_0 l2_1 l2_2 a4_0 l4_1 l4_2) else (if bt649.1 = bt651.1 then (if (bt653.2 != bt655.2) = true then (laws_FnClimbsRankedOfAll.j0 k a1 l3 a5 bt629.1 bt629.2 bt637.1 bt637.2 bt641.1 bt641.2 bt649.1 bt653.1 bt657.1 true a0_0 l0_1 l0_2 a2_0 l2_1 l2_2 a4_0 l4_1 l4_2) else (if bt653.1 = bt655.1 then (if (bt657.2 != bt661.2) = true then (laws_FnClimbsRankedOfAll.j0 k a1 l3 a5 bt629.1 bt629.2 bt637.1 bt637.2 bt641.1 bt641.2 bt649.1 bt653.1 bt657.1 true a0_0 l0_1 l0_2 a2_0 l2_1 l2_2 a4_0 l4_1 l4_2) else ((laws_lSame.f k bt657.1 bt661.1).bind fun t667 => (if t667 = true then (if bt637.2 = true then (if a1 ≥ 0 then (if (bt629.2 != (decide (a1 < bt637.1))) = true then (laws_FnClimbsRankedOfAll.j0 k a1 l3 a5 bt629.1 bt629.2 bt637.1 bt637.2 bt641.1 bt641.2 bt649.1 bt653.1 bt657.1 true a0_0 l0_1 l0_2 a2_0 l2_1 l2_2 a4_0 l4_1 l4_2) else (if (bt641.2 != (decide (bt637.1 > 0))) = true then (laws_FnClimbsRankedOfAll.j0 k a1 l3 a5 bt629.1 bt629.2 bt637.1 bt637.2 bt641.1 bt641.2 bt649.1 bt653.1 bt657.1 true a0_0 l0_1 l0_2 a2_0 l2_1 l2_2 a4_0 l4_1 l4_2) else (if (bt649.2 != bt641.2) = true then (laws_FnClimbsRankedOfAll.j0 k a1 l3 a5 bt629.1 bt629.2 bt637.1 bt637.2 bt641.1 bt641.2 bt649.1 bt653.1 bt657.1 true a0_0 l0_1 l0_2 a2_0 l2_1 l2_2 a4_0 l4_1 l4_2) else (if (bt653.2 != bt641.2) = true then (laws_FnClimbsRankedOfAll.j0 k a1 l3 a5 bt629.1 bt629.2 bt637.1 bt637.2 bt641.1 bt641.2 bt649.1 bt653.1 bt657.1 true a0_0 l0_1 l0_2 a2_0 l2_1 l2_2 a4_0 l4_1 l4_2) else (laws_FnClimbsRankedOfAll.j0 k a1 l3 a5 bt629.1 bt629.2 bt637.1 bt637.2 bt641.1 bt641.2 bt649.1 bt653.1 bt657.1 (bt657.2 != bt641.2) a0_0 l0_1 l0_2 a2_0 l2_1 l2_2 a4_0 l4_1 l4_2))))) else (if (bt629.2 != false) = true then (laws_FnClimbsRankedOfAll.j0 k a1 l3 a5 bt629.1 bt629.2 bt637.1 bt637.2 bt641.1 bt641.2 bt649.1 bt653.1 bt657.1 true a0_0 l0_1 l0_2 a2_0 l2_1 l2_2 a4_0 l4_1 l4_2) else (if (bt641.2 != (decide (bt637.1 > 0))) = true then (laws_FnClimbsRankedOfAll.j0 k a1 l3 a5 bt629.1 bt629.2 bt637.1 bt637.2 bt641.1 bt641.2 bt649.1 bt653.1 bt657.1 true a0_0 l0_1 l0_2 a2_0 l2_1 l2_2 a4_0 l4_1 l4_2) else (if (bt649.2 != bt641.2) = true then (laws_FnClimbsRankedOfAll.j0 k a1 l3 a5 bt629.1 bt629.2 bt637.1 bt637.2 bt641.1 bt641.2 bt649.1 bt653.1 bt657.1 true a0_0 l0_1 l0_2 a2_0 l2_1 l2_2 a4_0 l4_1 l4_2) else (if (bt653.2 != bt641.2) = true then (laws_FnClimbsRankedOfAll.j0 k a1 l3 a5 bt629.1 bt629.2 bt637.1 bt637.2 bt641.1 bt641.2 bt649.1 bt653.1 bt657.1 true a0_0 l0_1 l0_2 a2_0 l2_1 l2_2 a4_0 l4_1 l4_2) else (laws_FnClimbsRankedOfAll.j0 k a1 l3 a5 bt629.1 bt629.2 bt637.1 bt637.2 bt641.1 bt641.2 bt649.1 bt653.1 bt657.1 (bt657.2 != bt641.2) a0_0 l0_1 l0_2 a2_0 l2_1 l2_2 a4_0 l4_1 l4_2)))))) else (if (bt629.2 != false) = true then (laws_FnClimbsRankedOfAll.j0 k a1 l3 a5 bt629.1 bt629.2 bt637.1 bt637.2 bt641.1 bt641.2 bt649.1 bt653.1 bt657.1 true a0_0 l0_1 l0_2 a2_0 l2_1 l2_2 a4_0 l4_1 l4_2) else (if (bt649.2 != bt641.2) = true then (laws_FnClimbsRankedOfAll.j0 k a1 l3 a5 bt629.1 bt629.2 bt637.1 bt637.2 bt641.1 bt641.2 bt649.1 bt653.1 bt657.1 true a0_0 l0_1 l0_2 a2_0 l2_1 l2_2 a4_0 l4_1 l4_2) else (if (bt653.2 != bt641.2) = true then (laws_FnClimbsRankedOfAll.j0 k a1 l3 a5 bt629.1 bt629.2 bt637.1 bt637.2 bt641.1 bt641.2 bt649.1 bt653.1 bt657.1 true a0_0 l0_1 l0_2 a2_0 l2_1 l2_2 a4_0 l4_1 l4_2) else (laws_FnClimbsRankedOfAll.j0 k a1 l3 a5 bt629.1 bt629.2 bt637.1 bt637.2 bt641.1 bt641.2 bt649.1 bt653.1 bt657.1 (bt657.2 != bt641.2) a0_0 l0_1 l0_2 a2_0 l2_1 l2_2 a4_0 l4_1 l4_2))))) else (laws_FnClimbsRankedOfAll.j0 k a1 l3 a5 bt629.1 bt629.2 bt637.1 bt637.2 bt641.1 bt641.2 bt649.1 bt653.1 bt657.1 true a0_0 l0_1 l0_2 a2_0 l2_1 l2_2 a4_0 l4_1 l4_2)))) else (laws_FnClimbsRankedOfAll.j0 k a1 l3 a5 bt629.1 bt629.2 bt637.1 bt637.2 bt641.1 bt641.2 bt649.1 bt653.1 bt657.1 true a0_0 l0_1 l0_2 a2_0 l2_1 l2_2 a4_0 l4_1 l4_2))) else (laws_FnClimbsRankedOfAll.j0 k a1 l3 a5 bt629.1 bt629.2 bt637.1 bt637.2 bt641.1 bt641.2 bt649.1 bt653.1 bt657.1 true a0_0 l0_1 l0_2 a2_0 l2_1 l2_2 a4_0 l4_1 l4_2))) else (laws_FnClimbsRankedOfAll.j0 k a1 l3 a5 bt629.1 bt629.2 bt637.1 bt637.2 bt641.1 bt641.2 bt649.1 bt653.1 bt657.1 true a0_0 l0_1 l0_2 a2_0 l2_1 l2_2 a4_0 l4_1 l4_2)))) else (laws_FnClimbsRankedOfAll.j0 k a1 l3 a5 bt629.1 bt629.2 bt637.1 bt637.2 bt641.1 bt641.2 bt649.1 bt653.1 bt657.1 true a0_0 l0_1 l0_2 a2_0 l2_1 l2_2 a4_0 l4_1 l4_2))) else (laws_FnClimbsRankedOfAll.j0 k a1 l3 a5 bt629.1 bt629.2 bt637.1 bt637.2 bt641.1 bt641.2 bt649.1 bt653.1 bt657.1 true a0_0 l0_1 l0_2 a2_0 l2_1 l2_2 a4_0 l4_1 l4_2))))))))))))))))
theorem laws_FnClimbsRankedOfAll.mono_l : ∀ k, (∀ y0 y1 y2 y3 y4 y5 y6 y7 y8 y9 y10 y11 y12 y13 y14 y15 y16 y17 y18 y19 y20 y21, LeO (laws_FnClimbsRankedOfAll.j0 k y0 y1 y2 y3 y4 y5 y6 y7 y8 y9 y10 y11 y12 y13 y14 y15 y16 y17 y18 y19 y20 y21) (laws_FnClimbsRankedOfAll.j0 (k + 1) y0 y1 y2 y3 y4 y5 y6 y7 y8 y9 y10 y11 y12 y13 y14 y15 y16 y17 y18 y19 y20 y21)) ∧ (∀ y0 y1 y2 y3 y4 y5 y6 y7 y8 y9 y10 y11 y12 y13 y14 y15 y16 y17, LeO (laws_FnClimbsRankedOfAll.j1 k y0 y1 y2 y3 y4 y5 y6 y7 y8 y9 y10 y11 y12 y13 y14 y15 y16 y17) (laws_FnClimbsRankedOfAll.j1 (k + 1) y0 y1 y2 y3 y4 y5 y6 y7 y8 y9 y10 y11 y12 y13 y14 y15 y16 y17)) ∧ (∀ y0 y1 y2 y3 y4 y5 y6 y7 y8 y9 y10 y11 y12 y13 y14 y15, LeO (laws_FnClimbsRankedOfAll.j2 k y0 y1 y2 y3 y4 y5 y6 y7 y8 y9 y10 y11 y12 y13 y14 y15) (laws_FnClimbsRankedOfAll.j2 (k + 1) y0 y1 y2 y3 y4 y5 y6 y7 y8 y9 y10 y11 y12 y13 y14 y15)) ∧ (∀ y0 y1 y2 y3 y4 y5 y6 y7, LeO (laws_FnClimbsRankedOfAll.j4 k y0 y1 y2 y3 y4 y5 y6 y7) (laws_FnClimbsRankedOfAll.j4 (k + 1) y0 y1 y2 y3 y4 y5 y6 y7)) ∧ (∀ y0 y1 y2 y3 y4 y5 y6 y7 y8, LeO (laws_FnClimbsRankedOfAll.j5 k y0 y1 y2 y3 y4 y5 y6 y7 y8) (laws_FnClimbsRankedOfAll.j5 (k + 1) y0 y1 y2 y3 y4 y5 y6 y7 y8)) ∧ (∀ y0 y1 y2 y3 y4 y5, LeO (laws_FnClimbsRankedOfAll.j6 k y0 y1 y2 y3 y4 y5) (laws_FnClimbsRankedOfAll.j6 (k + 1) y0 y1 y2 y3 y4 y5)) ∧ (∀ y0 y1 y2 y3 y4 y5, LeO (laws_FnClimbsRankedOfAll.j7 k y0 y1 y2 y3 y4 y5) (laws_FnClimbsRankedOfAll.j7 (k + 1) y0 y1 y2 y3 y4 y5)) ∧ (∀ y0 y1 y2 y3 y4 y5 y6, LeO (laws_FnClimbsRankedOfAll.l1 k y0 y1 y2 y3 y4 y5 y6) (laws_FnClimbsRankedOfAll.l1 (k + 1) y0 y1 y2 y3 y4 y5 y6)) ∧ (∀ y0 y1 y2 y3 y4 y5 y6 y7 y8 y9 y10 y11 y12 y13 y14 y15 y16 y17 y18 y19, LeO (laws_FnClimbsRankedOfAll.l0 k y0 y1 y2 y3 y4 y5 y6 y7 y8 y9 y10 y11 y12 y13 y14 y15 y16 y17 y18 y19) (laws_FnClimbsRankedOfAll.l0 (k + 1) y0 y1 y2 y3 y4 y5 y6 y7 y8 y9 y10 y11 y12 y13 y14 y15 y16 y17 y18 y19))
  | 0 => ⟨fun _ _ _ _ _ _ _ _ _ _ _ _ _ _ _ _ _ _ _ _ _ _ r h => by simp [laws_FnClimbsRankedOfAll.j0] at h, fun _ _ _ _ _ _ _ _ _ _ _ _ _ _ _ _ _ _ r h => by simp [laws_FnClimbsRankedOfAll.j1] at h, fun _ _ _ _ _ _ _ _ _ _ _ _ _ _ _ _ r h => by simp [laws_FnClimbsRankedOfAll.j2] at h, fun _ _ _ _ _ _ _ _ r h => by simp [laws_FnClimbsRankedOfAll.j4] at h, fun _ _ _ _ _ _ _ _ _ r h => by simp [laws_FnClimbsRankedOfAll.j5] at h, fun _ _ _ _ _ _ r h => by simp [laws_FnClimbsRankedOfAll.j6] at h, fun _ _ _ _ _ _ r h => by simp [laws_FnClimbsRankedOfAll.j7] at h, fun _ _ _ _ _ _ _ r h => by simp [laws_FnClimbsRankedOfAll.l1] at h, fun _ _ _ _ _ _ _ _ _ _ _ _ _ _ _ _ _ _ _ _ r h => by simp [laws_FnClimbsRankedOfAll.l0] at h⟩
  | k + 1 => by
    obtain ⟨ih0, ih1, ih2, ih3, ih4, ih5, ih6, ih7, ih8⟩ := laws_FnClimbsRankedOfAll.mono_l k
    refine ⟨?_, ?_, ?_, ?_, ?_, ?_, ?_, ?_, ?_⟩
    · intro y0 y1 y2 y3 y4 y5 y6 y7 y8 y9 y10 y11 y12 y13 y14 y15 y16 y17 y18 y19 y20 y21
      unfold laws_FnClimbsRankedOfAll.j0
      repeat' first
      | (with_reducible exact ih0 _ _ _ _ _ _ _ _ _ _ _ _ _ _ _ _ _ _ _ _ _ _)
      | (with_reducible exact ih1 _ _ _ _ _ _ _ _ _ _ _ _ _ _ _ _ _ _)
      | (with_reducible exact ih2 _ _ _ _ _ _ _ _ _ _ _ _ _ _ _ _)
      | (with_reducible exact ih3 _ _ _ _ _ _ _ _)
      | (with_reducible exact ih4 _ _ _ _ _ _ _ _ _)
      | (with_reducible exact ih5 _ _ _ _ _ _)
      | (with_reducible exact ih6 _ _ _ _ _ _)
      | (with_reducible exact ih7 _ _ _ _ _ _ _)
      | (with_reducible exact ih8 _ _ _ _ _ _ _ _ _ _ _ _ _ _ _ _ _ _ _ _)
      | (with_reducible exact impl_ClimbOfRank.mono _ _ _ _ _)
      | (with_reducible exact impl_CountByStrides.mono _ _ _ _ _)
      | (with_reducible exact impl_CountClimbs.mono _ _ _ _)
      | (with_reducible exact impl_FewestStrides.mono _ _ _ _)
      | (with_reducible exact impl_FirstClimb.mono _ _ _ _)
      | (with_reducible exact impl_FirstFewest.mono _ _ _ _)
      | (with_reducible exact impl_IsClimb.mono _ _ _ _ _)
      | (with_reducible exact impl_MostStrides.mono _ _ _ _)
      | (with_reducible exact impl_NextClimb.mono _ _ _ _ _)
      | (with_reducible exact impl_RankOfClimb.mono _ _ _ _ _)
      | (with_reducible exact impl_StepsOfClimb.mono _ _ _ _ _)
      | (with_reducible exact impl_TurnStairs.mono _ _ _ _)
      | (with_reducible exact laws_lBefore.mono _ _ _)
      | (with_reducible exact laws_lHas.mono _ _ _)
      | (with_reducible exact laws_lRises.mono _ _)
      | (with_reducible exact laws_lSame.mono _ _ _)
      | (with_reducible exact laws_lSum.mono _ _)
      | (with_reducible exact spec_ClimbOfRank.mono _ _ _ _ _)
      | (with_reducible exact spec_CountByStrides.mono _ _ _ _ _)
      | (with_reducible exact spec_CountClimbs.mono _ _ _ _)
      | (with_reducible exact spec_FewestStrides.mono _ _ _ _)
      | (with_reducible exact spec_FirstClimb.mono _ _ _ _)
      | (with_reducible exact spec_FirstFewest.mono _ _ _ _)
      | (with_reducible exact spec_IsClimb.mono _ _ _ _ _)
      | (with_reducible exact spec_MostStrides.mono _ _ _ _)
      | (with_reducible exact spec_NextClimb.mono _ _ _ _ _)
      | (with_reducible exact spec_RankOfClimb.mono _ _ _ _ _)
      | (with_reducible exact spec_StepsOfClimb.mono _ _ _ _ _)
      | (with_reducible exact LeO.refl _)
      | (with_reducible exact LeO.none _)
      | (with_reducible refine LeO.ite ?_ ?_)
      | (with_reducible refine LeO.bind ?_ (fun _ => ?_))
      | exact ih0 _ _ _ _ _ _ _ _ _ _ _ _ _ _ _ _ _ _ _ _ _ _
      | exact ih1 _ _ _ _ _ _ _ _ _ _ _ _ _ _ _ _ _ _
      | exact ih2 _ _ _ _ _ _ _ _ _ _ _ _ _ _ _ _
      | exact ih3 _ _ _ _ _ _ _ _
      | exact ih4 _ _ _ _ _ _ _ _ _
      | exact ih5 _ _ _ _ _ _
      | exact ih6 _ _ _ _ _ _
      | exact ih7 _ _ _ _ _ _ _
      | exact ih8 _ _ _ _ _ _ _ _ _ _ _ _ _ _ _ _ _ _ _ _
      | exact impl_ClimbOfRank.mono _ _ _ _ _
      | exact impl_CountByStrides.mono _ _ _ _ _
      | exact impl_CountClimbs.mono _ _ _ _
      | exact impl_FewestStrides.mono _ _ _ _
      | exact impl_FirstClimb.mono _ _ _ _
      | exact impl_FirstFewest.mono _ _ _ _
      | exact impl_IsClimb.mono _ _ _ _ _
      | exact impl_MostStrides.mono _ _ _ _
      | exact impl_NextClimb.mono _ _ _ _ _
      | exact impl_RankOfClimb.mono _ _ _ _ _
      | exact impl_StepsOfClimb.mono _ _ _ _ _
      | exact impl_TurnStairs.mono _ _ _ _
      | exact laws_lBefore.mono _ _ _
      | exact laws_lHas.mono _ _ _
      | exact laws_lRises.mono _ _
      | exact laws_lSame.mono _ _ _
      | exact laws_lSum.mono _ _
      | exact spec_ClimbOfRank.mono _ _ _ _ _
      | exact spec_CountByStrides.mono _ _ _ _ _
      | exact spec_CountClimbs.mono _ _ _ _
      | exact spec_FewestStrides.mono _ _ _ _
      | exact spec_FirstClimb.mono _ _ _ _
      | exact spec_FirstFewest.mono _ _ _ _
      | exact spec_IsClimb.mono _ _ _ _ _
      | exact spec_MostStrides.mono _ _ _ _
      | exact spec_NextClimb.mono _ _ _ _ _
      | exact spec_RankOfClimb.mono _ _ _ _ _
      | exact spec_StepsOfClimb.mono _ _ _ _ _
      | exact LeO.none _
      | refine LeO.ite ?_ ?_
      | refine LeO.bind ?_ (fun _ => ?_)
    · intro y0 y1 y2 y3 y4 y5 y6 y7 y8 y9 y10 y11 y12 y13 y14 y15 y16 y17
      unfold laws_FnClimbsRankedOfAll.j1
      repeat' first
      | (with_reducible exact ih0 _ _ _ _ _ _ _ _ _ _ _ _ _ _ _ _ _ _ _ _ _ _)
      | (with_reducible exact ih1 _ _ _ _ _ _ _ _ _ _ _ _ _ _ _ _ _ _)
      | (with_reducible exact ih2 _ _ _ _ _ _ _ _ _ _ _ _ _ _ _ _)
      | (with_reducible exact ih3 _ _ _ _ _ _ _ _)
      | (with_reducible exact ih4 _ _ _ _ _ _ _ _ _)
      | (with_reducible exact ih5 _ _ _ _ _ _)
      | (with_reducible exact ih6 _ _ _ _ _ _)
      | (with_reducible exact ih7 _ _ _ _ _ _ _)
      | (with_reducible exact ih8 _ _ _ _ _ _ _ _ _ _ _ _ _ _ _ _ _ _ _ _)
      | (with_reducible exact impl_ClimbOfRank.mono _ _ _ _ _)
      | (with_reducible exact impl_CountByStrides.mono _ _ _ _ _)
      | (with_reducible exact impl_CountClimbs.mono _ _ _ _)
      | (with_reducible exact impl_FewestStrides.mono _ _ _ _)
      | (with_reducible exact impl_FirstClimb.mono _ _ _ _)
      | (with_reducible exact impl_FirstFewest.mono _ _ _ _)
      | (with_reducible exact impl_IsClimb.mono _ _ _ _ _)
      | (with_reducible exact impl_MostStrides.mono _ _ _ _)
      | (with_reducible exact impl_NextClimb.mono _ _ _ _ _)
      | (with_reducible exact impl_RankOfClimb.mono _ _ _ _ _)
      | (with_reducible exact impl_StepsOfClimb.mono _ _ _ _ _)
      | (with_reducible exact impl_TurnStairs.mono _ _ _ _)
      | (with_reducible exact laws_lBefore.mono _ _ _)
      | (with_reducible exact laws_lHas.mono _ _ _)
      | (with_reducible exact laws_lRises.mono _ _)
      | (with_reducible exact laws_lSame.mono _ _ _)
      | (with_reducible exact laws_lSum.mono _ _)
      | (with_reducible exact spec_ClimbOfRank.mono _ _ _ _ _)
      | (with_reducible exact spec_CountByStrides.mono _ _ _ _ _)
      | (with_reducible exact spec_CountClimbs.mono _ _ _ _)
      | (with_reducible exact spec_FewestStrides.mono _ _ _ _)
      | (with_reducible exact spec_FirstClimb.mono _ _ _ _)
      | (with_reducible exact spec_FirstFewest.mono _ _ _ _)
      | (with_reducible exact spec_IsClimb.mono _ _ _ _ _)
      | (with_reducible exact spec_MostStrides.mono _ _ _ _)
      | (with_reducible exact spec_NextClimb.mono _ _ _ _ _)
      | (with_reducible exact spec_RankOfClimb.mono _ _ _ _ _)
      | (with_reducible exact spec_StepsOfClimb.mono _ _ _ _ _)
      | (with_reducible exact LeO.refl _)
      | (with_reducible exact LeO.none _)
      | (with_reducible refine LeO.ite ?_ ?_)
      | (with_reducible refine LeO.bind ?_ (fun _ => ?_))
      | exact ih0 _ _ _ _ _ _ _ _ _ _ _ _ _ _ _ _ _ _ _ _ _ _
      | exact ih1 _ _ _ _ _ _ _ _ _ _ _ _ _ _ _ _ _ _
      | exact ih2 _ _ _ _ _ _ _ _ _ _ _ _ _ _ _ _
      | exact ih3 _ _ _ _ _ _ _ _
      | exact ih4 _ _ _ _ _ _ _ _ _
      | exact ih5 _ _ _ _ _ _
      | exact ih6 _ _ _ _ _ _
      | exact ih7 _ _ _ _ _ _ _
      | exact ih8 _ _ _ _ _ _ _ _ _ _ _ _ _ _ _ _ _ _ _ _
      | exact impl_ClimbOfRank.mono _ _ _ _ _
      | exact impl_CountByStrides.mono _ _ _ _ _
      | exact impl_CountClimbs.mono _ _ _ _
      | exact impl_FewestStrides.mono _ _ _ _
      | exact impl_FirstClimb.mono _ _ _ _
      | exact impl_FirstFewest.mono _ _ _ _
      | exact impl_IsClimb.mono _ _ _ _ _
      | exact impl_MostStrides.mono _ _ _ _
      | exact impl_NextClimb.mono _ _ _ _ _
      | exact impl_RankOfClimb.mono _ _ _ _ _
      | exact impl_StepsOfClimb.mono _ _ _ _ _
      | exact impl_TurnStairs.mono _ _ _ _
      | exact laws_lBefore.mono _ _ _
      | exact laws_lHas.mono _ _ _
      | exact laws_lRises.mono _ _
      | exact laws_lSame.mono _ _ _
      | exact laws_lSum.mono _ _
      | exact spec_ClimbOfRank.mono _ _ _ _ _
      | exact spec_CountByStrides.mono _ _ _ _ _
      | exact spec_CountClimbs.mono _ _ _ _
      | exact spec_FewestStrides.mono _ _ _ _
      | exact spec_FirstClimb.mono _ _ _ _
      | exact spec_FirstFewest.mono _ _ _ _
      | exact spec_IsClimb.mono _ _ _ _ _
      | exact spec_MostStrides.mono _ _ _ _
      | exact spec_NextClimb.mono _ _ _ _ _
      | exact spec_RankOfClimb.mono _ _ _ _ _
      | exact spec_StepsOfClimb.mono _ _ _ _ _
      | exact LeO.none _
      | refine LeO.ite ?_ ?_
      | refine LeO.bind ?_ (fun _ => ?_)
    · intro y0 y1 y2 y3 y4 y5 y6 y7 y8 y9 y10 y11 y12 y13 y14 y15
      unfold laws_FnClimbsRankedOfAll.j2
      repeat' first
      | (with_reducible exact ih0 _ _ _ _ _ _ _ _ _ _ _ _ _ _ _ _ _ _ _ _ _ _)
      | (with_reducible exact ih1 _ _ _ _ _ _ _ _ _ _ _ _ _ _ _ _ _ _)
      | (with_reducible exact ih2 _ _ _ _ _ _ _ _ _ _ _ _ _ _ _ _)
      | (with_reducible exact ih3 _ _ _ _ _ _ _ _)
      | (with_reducible exact ih4 _ _ _ _ _ _ _ _ _)
      | (with_reducible exact ih5 _ _ _ _ _ _)
      | (with_reducible exact ih6 _ _ _ _ _ _)
      | (with_reducible exact ih7 _ _ _ _ _ _ _)
      | (with_reducible exact ih8 _ _ _ _ _ _ _ _ _ _ _ _ _ _ _ _ _ _ _ _)
      | (with_reducible exact impl_ClimbOfRank.mono _ _ _ _ _)
      | (with_reducible exact impl_CountByStrides.mono _ _ _ _ _)
      | (with_reducible exact impl_CountClimbs.mono _ _ _ _)
      | (with_reducible exact impl_FewestStrides.mono _ _ _ _)
      | (with_reducible exact impl_FirstClimb.mono _ _ _ _)
      | (with_reducible exact impl_FirstFewest.mono _ _ _ _)
      | (with_reducible exact impl_IsClimb.mono _ _ _ _ _)
      | (with_reducible exact impl_MostStrides.mono _ _ _ _)
      | (with_reducible exact impl_NextClimb.mono _ _ _ _ _)
      | (with_reducible exact impl_RankOfClimb.mono _ _ _ _ _)
      | (with_reducible exact impl_StepsOfClimb.mono _ _ _ _ _)
      | (with_reducible exact impl_TurnStairs.mono _ _ _ _)
      | (with_reducible exact laws_lBefore.mono _ _ _)
      | (with_reducible exact laws_lHas.mono _ _ _)
      | (with_reducible exact laws_lRises.mono _ _)
      | (with_reducible exact laws_lSame.mono _ _ _)
      | (with_reducible exact laws_lSum.mono _ _)
      | (with_reducible exact spec_ClimbOfRank.mono _ _ _ _ _)
      | (with_reducible exact spec_CountByStrides.mono _ _ _ _ _)
      | (with_reducible exact spec_CountClimbs.mono _ _ _ _)
      | (with_reducible exact spec_FewestStrides.mono _ _ _ _)
      | (with_reducible exact spec_FirstClimb.mono _ _ _ _)
      | (with_reducible exact spec_FirstFewest.mono _ _ _ _)
      | (with_reducible exact spec_IsClimb.mono _ _ _ _ _)
      | (with_reducible exact spec_MostStrides.mono _ _ _ _)
      | (with_reducible exact spec_NextClimb.mono _ _ _ _ _)
      | (with_reducible exact spec_RankOfClimb.mono _ _ _ _ _)
      | (with_reducible exact spec_StepsOfClimb.mono _ _ _ _ _)
      | (with_reducible exact LeO.refl _)
      | (with_reducible exact LeO.none _)
      | (with_reducible refine LeO.ite ?_ ?_)
      | (with_reducible refine LeO.bind ?_ (fun _ => ?_))
      | exact ih0 _ _ _ _ _ _ _ _ _ _ _ _ _ _ _ _ _ _ _ _ _ _
      | exact ih1 _ _ _ _ _ _ _ _ _ _ _ _ _ _ _ _ _ _
      | exact ih2 _ _ _ _ _ _ _ _ _ _ _ _ _ _ _ _
      | exact ih3 _ _ _ _ _ _ _ _
      | exact ih4 _ _ _ _ _ _ _ _ _
      | exact ih5 _ _ _ _ _ _
      | exact ih6 _ _ _ _ _ _
      | exact ih7 _ _ _ _ _ _ _
      | exact ih8 _ _ _ _ _ _ _ _ _ _ _ _ _ _ _ _ _ _ _ _
      | exact impl_ClimbOfRank.mono _ _ _ _ _
      | exact impl_CountByStrides.mono _ _ _ _ _
      | exact impl_CountClimbs.mono _ _ _ _
      | exact impl_FewestStrides.mono _ _ _ _
      | exact impl_FirstClimb.mono _ _ _ _
      | exact impl_FirstFewest.mono _ _ _ _
      | exact impl_IsClimb.mono _ _ _ _ _
      | exact impl_MostStrides.mono _ _ _ _
      | exact impl_NextClimb.mono _ _ _ _ _
      | exact impl_RankOfClimb.mono _ _ _ _ _
      | exact impl_StepsOfClimb.mono _ _ _ _ _
      | exact impl_TurnStairs.mono _ _ _ _
      | exact laws_lBefore.mono _ _ _
      | exact laws_lHas.mono _ _ _
      | exact laws_lRises.mono _ _
      | exact laws_lSame.mono _ _ _
      | exact laws_lSum.mono _ _
      | exact spec_ClimbOfRank.mono _ _ _ _ _
      | exact spec_CountByStrides.mono _ _ _ _ _
      | exact spec_CountClimbs.mono _ _ _ _
      | exact spec_FewestStrides.mono _ _ _ _
      | exact spec_FirstClimb.mono _ _ _ _
      | exact spec_FirstFewest.mono _ _ _ _
      | exact spec_IsClimb.mono _ _ _ _ _
      | exact spec_MostStrides.mono _ _ _ _
      | exact spec_NextClimb.mono _ _ _ _ _
      | exact spec_RankOfClimb.mono _ _ _ _ _
      | exact spec_StepsOfClimb.mono _ _ _ _ _
      | exact LeO.none _
      | refine LeO.ite ?_ ?_
      | refine LeO.bind ?_ (fun _ => ?_)
    · intro y0 y1 y2 y3 y4 y5 y6 y7
      unfold laws_FnClimbsRankedOfAll.j4
      repeat' first
      | (with_reducible exact ih0 _ _ _ _ _ _ _ _ _ _ _ _ _ _ _ _ _ _ _ _ _ _)
      | (with_reducible exact ih1 _ _ _ _ _ _ _ _ _ _ _ _ _ _ _ _ _ _)
      | (with_reducible exact ih2 _ _ _ _ _ _ _ _ _ _ _ _ _ _ _ _)
      | (with_reducible exact ih3 _ _ _ _ _ _ _ _)
      | (with_reducible exact ih4 _ _ _ _ _ _ _ _ _)
      | (with_reducible exact ih5 _ _ _ _ _ _)
      | (with_reducible exact ih6 _ _ _ _ _ _)
      | (with_reducible exact ih7 _ _ _ _ _ _ _)
      | (with_reducible exact ih8 _ _ _ _ _ _ _ _ _ _ _ _ _ _ _ _ _ _ _ _)
      | (with_reducible exact impl_ClimbOfRank.mono _ _ _ _ _)
      | (with_reducible exact impl_CountByStrides.mono _ _ _ _ _)
      | (with_reducible exact impl_CountClimbs.mono _ _ _ _)
      | (with_reducible exact impl_FewestStrides.mono _ _ _ _)
      | (with_reducible exact impl_FirstClimb.mono _ _ _ _)
      | (with_reducible exact impl_FirstFewest.mono _ _ _ _)
      | (with_reducible exact impl_IsClimb.mono _ _ _ _ _)
      | (with_reducible exact impl_MostStrides.mono _ _ _ _)
      | (with_reducible exact impl_NextClimb.mono _ _ _ _ _)
      | (with_reducible exact impl_RankOfClimb.mono _ _ _ _ _)
      | (with_reducible exact impl_StepsOfClimb.mono _ _ _ _ _)
      | (with_reducible exact impl_TurnStairs.mono _ _ _ _)
      | (with_reducible exact laws_lBefore.mono _ _ _)
      | (with_reducible exact laws_lHas.mono _ _ _)
      | (with_reducible exact laws_lRises.mono _ _)
      | (with_reducible exact laws_lSame.mono _ _ _)
      | (with_reducible exact laws_lSum.mono _ _)
      | (with_reducible exact spec_ClimbOfRank.mono _ _ _ _ _)
      | (with_reducible exact spec_CountByStrides.mono _ _ _ _ _)
      | (with_reducible exact spec_CountClimbs.mono _ _ _ _)
      | (with_reducible exact spec_FewestStrides.mono _ _ _ _)
      | (with_reducible exact spec_FirstClimb.mono _ _ _ _)
      | (with_reducible exact spec_FirstFewest.mono _ _ _ _)
      | (with_reducible exact spec_IsClimb.mono _ _ _ _ _)
      | (with_reducible exact spec_MostStrides.mono _ _ _ _)
      | (with_reducible exact spec_NextClimb.mono _ _ _ _ _)
      | (with_reducible exact spec_RankOfClimb.mono _ _ _ _ _)
      | (with_reducible exact spec_StepsOfClimb.mono _ _ _ _ _)
      | (with_reducible exact LeO.refl _)
      | (with_reducible exact LeO.none _)
      | (with_reducible refine LeO.ite ?_ ?_)
      | (with_reducible refine LeO.bind ?_ (fun _ => ?_))
      | exact ih0 _ _ _ _ _ _ _ _ _ _ _ _ _ _ _ _ _ _ _ _ _ _
      | exact ih1 _ _ _ _ _ _ _ _ _ _ _ _ _ _ _ _ _ _
      | exact ih2 _ _ _ _ _ _ _ _ _ _ _ _ _ _ _ _
      | exact ih3 _ _ _ _ _ _ _ _
      | exact ih4 _ _ _ _ _ _ _ _ _
      | exact ih5 _ _ _ _ _ _
      | exact ih6 _ _ _ _ _ _
      | exact ih7 _ _ _ _ _ _ _
      | exact ih8 _ _ _ _ _ _ _ _ _ _ _ _ _ _ _ _ _ _ _ _
      | exact impl_ClimbOfRank.mono _ _ _ _ _
      | exact impl_CountByStrides.mono _ _ _ _ _
      | exact impl_CountClimbs.mono _ _ _ _
      | exact impl_FewestStrides.mono _ _ _ _
      | exact impl_FirstClimb.mono _ _ _ _
      | exact impl_FirstFewest.mono _ _ _ _
      | exact impl_IsClimb.mono _ _ _ _ _
      | exact impl_MostStrides.mono _ _ _ _
      | exact impl_NextClimb.mono _ _ _ _ _
      | exact impl_RankOfClimb.mono _ _ _ _ _
      | exact impl_StepsOfClimb.mono _ _ _ _ _
      | exact impl_TurnStairs.mono _ _ _ _
      | exact laws_lBefore.mono _ _ _
      | exact laws_lHas.mono _ _ _
      | exact laws_lRises.mono _ _
      | exact laws_lSame.mono _ _ _
      | exact laws_lSum.mono _ _
      | exact spec_ClimbOfRank.mono _ _ _ _ _
      | exact spec_CountByStrides.mono _ _ _ _ _
      | exact spec_CountClimbs.mono _ _ _ _
      | exact spec_FewestStrides.mono _ _ _ _
      | exact spec_FirstClimb.mono _ _ _ _
      | exact spec_FirstFewest.mono _ _ _ _
      | exact spec_IsClimb.mono _ _ _ _ _
      | exact spec_MostStrides.mono _ _ _ _
      | exact spec_NextClimb.mono _ _ _ _ _
      | exact spec_RankOfClimb.mono _ _ _ _ _
      | exact spec_StepsOfClimb.mono _ _ _ _ _
      | exact LeO.none _
      | refine LeO.ite ?_ ?_
      | refine LeO.bind ?_ (fun _ => ?_)
    · intro y0 y1 y2 y3 y4 y5 y6 y7 y8
      unfold laws_FnClimbsRankedOfAll.j5
      repeat' first
      | (with_reducible exact ih0 _ _ _ _ _ _ _ _ _ _ _ _ _ _ _ _ _ _ _ _ _ _)
      | (with_reducible exact ih1 _ _ _ _ _ _ _ _ _ _ _ _ _ _ _ _ _ _)
      | (with_reducible exact ih2 _ _ _ _ _ _ _ _ _ _ _ _ _ _ _ _)
      | (with_reducible exact ih3 _ _ _ _ _ _ _ _)
      | (with_reducible exact ih4 _ _ _ _ _ _ _ _ _)
      | (with_reducible exact ih5 _ _ _ _ _ _)
      | (with_reducible exact ih6 _ _ _ _ _ _)
      | (with_reducible exact ih7 _ _ _ _ _ _ _)
      | (with_reducible exact ih8 _ _ _ _ _ _ _ _ _ _ _ _ _ _ _ _ _ _ _ _)
      | (with_reducible exact impl_ClimbOfRank.mono _ _ _ _ _)
      | (with_reducible exact impl_CountByStrides.mono _ _ _ _ _)
      | (with_reducible exact impl_CountClimbs.mono _ _ _ _)
      | (with_reducible exact impl_FewestStrides.mono _ _ _ _)
      | (with_reducible exact impl_FirstClimb.mono _ _ _ _)
      | (with_reducible exact impl_FirstFewest.mono _ _ _ _)
      | (with_reducible exact impl_IsClimb.mono _ _ _ _ _)
      | (with_reducible exact impl_MostStrides.mono _ _ _ _)
      | (with_reducible exact impl_NextClimb.mono _ _ _ _ _)
      | (with_reducible exact impl_RankOfClimb.mono _ _ _ _ _)
      | (with_reducible exact impl_StepsOfClimb.mono _ _ _ _ _)
      | (with_reducible exact impl_TurnStairs.mono _ _ _ _)
      | (with_reducible exact laws_lBefore.mono _ _ _)
      | (with_reducible exact laws_lHas.mono _ _ _)
      | (with_reducible exact laws_lRises.mono _ _)
      | (with_reducible exact laws_lSame.mono _ _ _)
      | (with_reducible exact laws_lSum.mono _ _)
      | (with_reducible exact spec_ClimbOfRank.mono _ _ _ _ _)
      | (with_reducible exact spec_CountByStrides.mono _ _ _ _ _)
      | (with_reducible exact spec_CountClimbs.mono _ _ _ _)
      | (with_reducible exact spec_FewestStrides.mono _ _ _ _)
      | (with_reducible exact spec_FirstClimb.mono _ _ _ _)
      | (with_reducible exact spec_FirstFewest.mono _ _ _ _)
      | (with_reducible exact spec_IsClimb.mono _ _ _ _ _)
      | (with_reducible exact spec_MostStrides.mono _ _ _ _)
      | (with_reducible exact spec_NextClimb.mono _ _ _ _ _)
      | (with_reducible exact spec_RankOfClimb.mono _ _ _ _ _)
      | (with_reducible exact spec_StepsOfClimb.mono _ _ _ _ _)
      | (with_reducible exact LeO.refl _)
      | (with_reducible exact LeO.none _)
      | (with_reducible refine LeO.ite ?_ ?_)
      | (with_reducible refine LeO.bind ?_ (fun _ => ?_))
      | exact ih0 _ _ _ _ _ _ _ _ _ _ _ _ _ _ _ _ _ _ _ _ _ _
      | exact ih1 _ _ _ _ _ _ _ _ _ _ _ _ _ _ _ _ _ _
      | exact ih2 _ _ _ _ _ _ _ _ _ _ _ _ _ _ _ _
      | exact ih3 _ _ _ _ _ _ _ _
      | exact ih4 _ _ _ _ _ _ _ _ _
      | exact ih5 _ _ _ _ _ _
      | exact ih6 _ _ _ _ _ _
      | exact ih7 _ _ _ _ _ _ _
      | exact ih8 _ _ _ _ _ _ _ _ _ _ _ _ _ _ _ _ _ _ _ _
      | exact impl_ClimbOfRank.mono _ _ _ _ _
      | exact impl_CountByStrides.mono _ _ _ _ _
      | exact impl_CountClimbs.mono _ _ _ _
      | exact impl_FewestStrides.mono _ _ _ _
      | exact impl_FirstClimb.mono _ _ _ _
      | exact impl_FirstFewest.mono _ _ _ _
      | exact impl_IsClimb.mono _ _ _ _ _
      | exact impl_MostStrides.mono _ _ _ _
      | exact impl_NextClimb.mono _ _ _ _ _
      | exact impl_RankOfClimb.mono _ _ _ _ _
      | exact impl_StepsOfClimb.mono _ _ _ _ _
      | exact impl_TurnStairs.mono _ _ _ _
      | exact laws_lBefore.mono _ _ _
      | exact laws_lHas.mono _ _ _
      | exact laws_lRises.mono _ _
      | exact laws_lSame.mono _ _ _
      | exact laws_lSum.mono _ _
      | exact spec_ClimbOfRank.mono _ _ _ _ _
      | exact spec_CountByStrides.mono _ _ _ _ _
      | exact spec_CountClimbs.mono _ _ _ _
      | exact spec_FewestStrides.mono _ _ _ _
      | exact spec_FirstClimb.mono _ _ _ _
      | exact spec_FirstFewest.mono _ _ _ _
      | exact spec_IsClimb.mono _ _ _ _ _
      | exact spec_MostStrides.mono _ _ _ _
      | exact spec_NextClimb.mono _ _ _ _ _
      | exact spec_RankOfClimb.mono _ _ _ _ _
      | exact spec_StepsOfClimb.mono _ _ _ _ _
      | exact LeO.none _
      | refine LeO.ite ?_ ?_
      | refine LeO.bind ?_ (fun _ => ?_)
    · intro y0 y1 y2 y3 y4 y5
      unfold laws_FnClimbsRankedOfAll.j6
      repeat' first
      | (with_reducible exact ih0 _ _ _ _ _ _ _ _ _ _ _ _ _ _ _ _ _ _ _ _ _ _)
      | (with_reducible exact ih1 _ _ _ _ _ _ _ _ _ _ _ _ _ _ _ _ _ _)
      | (with_reducible exact ih2 _ _ _ _ _ _ _ _ _ _ _ _ _ _ _ _)
      | (with_reducible exact ih3 _ _ _ _ _ _ _ _)
      | (with_reducible exact ih4 _ _ _ _ _ _ _ _ _)
      | (with_reducible exact ih5 _ _ _ _ _ _)
      | (with_reducible exact ih6 _ _ _ _ _ _)
      | (with_reducible exact ih7 _ _ _ _ _ _ _)
      | (with_reducible exact ih8 _ _ _ _ _ _ _ _ _ _ _ _ _ _ _ _ _ _ _ _)
      | (with_reducible exact impl_ClimbOfRank.mono _ _ _ _ _)
      | (with_reducible exact impl_CountByStrides.mono _ _ _ _ _)
      | (with_reducible exact impl_CountClimbs.mono _ _ _ _)
      | (with_reducible exact impl_FewestStrides.mono _ _ _ _)
      | (with_reducible exact impl_FirstClimb.mono _ _ _ _)
      | (with_reducible exact impl_FirstFewest.mono _ _ _ _)
      | (with_reducible exact impl_IsClimb.mono _ _ _ _ _)
      | (with_reducible exact impl_MostStrides.mono _ _ _ _)
      | (with_reducible exact impl_NextClimb.mono _ _ _ _ _)
      | (with_reducible exact impl_RankOfClimb.mono _ _ _ _ _)
      | (with_reducible exact impl_StepsOfClimb.mono _ _ _ _ _)
      | (with_reducible exact impl_TurnStairs.mono _ _ _ _)
      | (with_reducible exact laws_lBefore.mono _ _ _)
      | (with_reducible exact laws_lHas.mono _ _ _)
      | (with_reducible exact laws_lRises.mono _ _)
      | (with_reducible exact laws_lSame.mono _ _ _)
      | (with_reducible exact laws_lSum.mono _ _)
      | (with_reducible exact spec_ClimbOfRank.mono _ _ _ _ _)
      | (with_reducible exact spec_CountByStrides.mono _ _ _ _ _)
      | (with_reducible exact spec_CountClimbs.mono _ _ _ _)
      | (with_reducible exact spec_FewestStrides.mono _ _ _ _)
      | (with_reducible exact spec_FirstClimb.mono _ _ _ _)
      | (with_reducible exact spec_FirstFewest.mono _ _ _ _)
      | (with_reducible exact spec_IsClimb.mono _ _ _ _ _)
      | (with_reducible exact spec_MostStrides.mono _ _ _ _)
      | (with_reducible exact spec_NextClimb.mono _ _ _ _ _)
      | (with_reducible exact spec_RankOfClimb.mono _ _ _ _ _)
      | (with_reducible exact spec_StepsOfClimb.mono _ _ _ _ _)
      | (with_reducible exact LeO.refl _)
      | (with_reducible exact LeO.none _)
      | (with_reducible refine LeO.ite ?_ ?_)
      | (with_reducible refine LeO.bind ?_ (fun _ => ?_))
      | exact ih0 _ _ _ _ _ _ _ _ _ _ _ _ _ _ _ _ _ _ _ _ _ _
      | exact ih1 _ _ _ _ _ _ _ _ _ _ _ _ _ _ _ _ _ _
      | exact ih2 _ _ _ _ _ _ _ _ _ _ _ _ _ _ _ _
      | exact ih3 _ _ _ _ _ _ _ _
      | exact ih4 _ _ _ _ _ _ _ _ _
      | exact ih5 _ _ _ _ _ _
      | exact ih6 _ _ _ _ _ _
      | exact ih7 _ _ _ _ _ _ _
      | exact ih8 _ _ _ _ _ _ _ _ _ _ _ _ _ _ _ _ _ _ _ _
      | exact impl_ClimbOfRank.mono _ _ _ _ _
      | exact impl_CountByStrides.mono _ _ _ _ _
      | exact impl_CountClimbs.mono _ _ _ _
      | exact impl_FewestStrides.mono _ _ _ _
      | exact impl_FirstClimb.mono _ _ _ _
      | exact impl_FirstFewest.mono _ _ _ _
      | exact impl_IsClimb.mono _ _ _ _ _
      | exact impl_MostStrides.mono _ _ _ _
      | exact impl_NextClimb.mono _ _ _ _ _
      | exact impl_RankOfClimb.mono _ _ _ _ _
      | exact impl_StepsOfClimb.mono _ _ _ _ _
      | exact impl_TurnStairs.mono _ _ _ _
      | exact laws_lBefore.mono _ _ _
      | exact laws_lHas.mono _ _ _
      | exact laws_lRises.mono _ _
      | exact laws_lSame.mono _ _ _
      | exact laws_lSum.mono _ _
      | exact spec_ClimbOfRank.mono _ _ _ _ _
      | exact spec_CountByStrides.mono _ _ _ _ _
      | exact spec_CountClimbs.mono _ _ _ _
      | exact spec_FewestStrides.mono _ _ _ _
      | exact spec_FirstClimb.mono _ _ _ _
      | exact spec_FirstFewest.mono _ _ _ _
      | exact spec_IsClimb.mono _ _ _ _ _
      | exact spec_MostStrides.mono _ _ _ _
      | exact spec_NextClimb.mono _ _ _ _ _
      | exact spec_RankOfClimb.mono _ _ _ _ _
      | exact spec_StepsOfClimb.mono _ _ _ _ _
      | exact LeO.none _
      | refine LeO.ite ?_ ?_
      | refine LeO.bind ?_ (fun _ => ?_)
    · intro y0 y1 y2 y3 y4 y5
      unfold laws_FnClimbsRankedOfAll.j7
      repeat' first
      | (with_reducible exact ih0 _ _ _ _ _ _ _ _ _ _ _ _ _ _ _ _ _ _ _ _ _ _)
      | (with_reducible exact ih1 _ _ _ _ _ _ _ _ _ _ _ _ _ _ _ _ _ _)
      | (with_reducible exact ih2 _ _ _ _ _ _ _ _ _ _ _ _ _ _ _ _)
      | (with_reducible exact ih3 _ _ _ _ _ _ _ _)
      | (with_reducible exact ih4 _ _ _ _ _ _ _ _ _)
      | (with_reducible exact ih5 _ _ _ _ _ _)
      | (with_reducible exact ih6 _ _ _ _ _ _)
      | (with_reducible exact ih7 _ _ _ _ _ _ _)
      | (with_reducible exact ih8 _ _ _ _ _ _ _ _ _ _ _ _ _ _ _ _ _ _ _ _)
      | (with_reducible exact impl_ClimbOfRank.mono _ _ _ _ _)
      | (with_reducible exact impl_CountByStrides.mono _ _ _ _ _)
      | (with_reducible exact impl_CountClimbs.mono _ _ _ _)
      | (with_reducible exact impl_FewestStrides.mono _ _ _ _)
      | (with_reducible exact impl_FirstClimb.mono _ _ _ _)
      | (with_reducible exact impl_FirstFewest.mono _ _ _ _)
      | (with_reducible exact impl_IsClimb.mono _ _ _ _ _)
      | (with_reducible exact impl_MostStrides.mono _ _ _ _)
      | (with_reducible exact impl_NextClimb.mono _ _ _ _ _)
      | (with_reducible exact impl_RankOfClimb.mono _ _ _ _ _)
      | (with_reducible exact impl_StepsOfClimb.mono _ _ _ _ _)
      | (with_reducible exact impl_TurnStairs.mono _ _ _ _)
      | (with_reducible exact laws_lBefore.mono _ _ _)
      | (with_reducible exact laws_lHas.mono _ _ _)
      | (with_reducible exact laws_lRises.mono _ _)
      | (with_reducible exact laws_lSame.mono _ _ _)
      | (with_reducible exact laws_lSum.mono _ _)
      | (with_reducible exact spec_ClimbOfRank.mono _ _ _ _ _)
      | (with_reducible exact spec_CountByStrides.mono _ _ _ _ _)
      | (with_reducible exact spec_CountClimbs.mono _ _ _ _)
      | (with_reducible exact spec_FewestStrides.mono _ _ _ _)
      | (with_reducible exact spec_FirstClimb.mono _ _ _ _)
      | (with_reducible exact spec_FirstFewest.mono _ _ _ _)
      | (with_reducible exact spec_IsClimb.mono _ _ _ _ _)
      | (with_reducible exact spec_MostStrides.mono _ _ _ _)
      | (with_reducible exact spec_NextClimb.mono _ _ _ _ _)
      | (with_reducible exact spec_RankOfClimb.mono _ _ _ _ _)
      | (with_reducible exact spec_StepsOfClimb.mono _ _ _ _ _)
      | (with_reducible exact LeO.refl _)
      | (with_reducible exact LeO.none _)
      | (with_reducible refine LeO.ite ?_ ?_)
      | (with_reducible refine LeO.bind ?_ (fun _ => ?_))
      | exact ih0 _ _ _ _ _ _ _ _ _ _ _ _ _ _ _ _ _ _ _ _ _ _
      | exact ih1 _ _ _ _ _ _ _ _ _ _ _ _ _ _ _ _ _ _
      | exact ih2 _ _ _ _ _ _ _ _ _ _ _ _ _ _ _ _
      | exact ih3 _ _ _ _ _ _ _ _
      | exact ih4 _ _ _ _ _ _ _ _ _
      | exact ih5 _ _ _ _ _ _
      | exact ih6 _ _ _ _ _ _
      | exact ih7 _ _ _ _ _ _ _
      | exact ih8 _ _ _ _ _ _ _ _ _ _ _ _ _ _ _ _ _ _ _ _
      | exact impl_ClimbOfRank.mono _ _ _ _ _
      | exact impl_CountByStrides.mono _ _ _ _ _
      | exact impl_CountClimbs.mono _ _ _ _
      | exact impl_FewestStrides.mono _ _ _ _
      | exact impl_FirstClimb.mono _ _ _ _
      | exact impl_FirstFewest.mono _ _ _ _
      | exact impl_IsClimb.mono _ _ _ _ _
      | exact impl_MostStrides.mono _ _ _ _
      | exact impl_NextClimb.mono _ _ _ _ _
      | exact impl_RankOfClimb.mono _ _ _ _ _
      | exact impl_StepsOfClimb.mono _ _ _ _ _
      | exact impl_TurnStairs.mono _ _ _ _
      | exact laws_lBefore.mono _ _ _
      | exact laws_lHas.mono _ _ _
      | exact laws_lRises.mono _ _
      | exact laws_lSame.mono _ _ _
      | exact laws_lSum.mono _ _
      | exact spec_ClimbOfRank.mono _ _ _ _ _
      | exact spec_CountByStrides.mono _ _ _ _ _
      | exact spec_CountClimbs.mono _ _ _ _
      | exact spec_FewestStrides.mono _ _ _ _
      | exact spec_FirstClimb.mono _ _ _ _
      | exact spec_FirstFewest.mono _ _ _ _
      | exact spec_IsClimb.mono _ _ _ _ _
      | exact spec_MostStrides.mono _ _ _ _
      | exact spec_NextClimb.mono _ _ _ _ _
      | exact spec_RankOfClimb.mono _ _ _ _ _
      | exact spec_StepsOfClimb.mono _ _ _ _ _
      | exact LeO.none _
      | refine LeO.ite ?_ ?_
      | refine LeO.bind ?_ (fun _ => ?_)
    · intro y0 y1 y2 y3 y4 y5 y6
      unfold laws_FnClimbsRankedOfAll.l1
      repeat' first
      | (with_reducible exact ih0 _ _ _ _ _ _ _ _ _ _ _ _ _ _ _ _ _ _ _ _ _ _)
      | (with_reducible exact ih1 _ _ _ _ _ _ _ _ _ _ _ _ _ _ _ _ _ _)
      | (with_reducible exact ih2 _ _ _ _ _ _ _ _ _ _ _ _ _ _ _ _)
      | (with_reducible exact ih3 _ _ _ _ _ _ _ _)
      | (with_reducible exact ih4 _ _ _ _ _ _ _ _ _)
      | (with_reducible exact ih5 _ _ _ _ _ _)
      | (with_reducible exact ih6 _ _ _ _ _ _)
      | (with_reducible exact ih7 _ _ _ _ _ _ _)
      | (with_reducible exact ih8 _ _ _ _ _ _ _ _ _ _ _ _ _ _ _ _ _ _ _ _)
      | (with_reducible exact impl_ClimbOfRank.mono _ _ _ _ _)
      | (with_reducible exact impl_CountByStrides.mono _ _ _ _ _)
      | (with_reducible exact impl_CountClimbs.mono _ _ _ _)
      | (with_reducible exact impl_FewestStrides.mono _ _ _ _)
      | (with_reducible exact impl_FirstClimb.mono _ _ _ _)
      | (with_reducible exact impl_FirstFewest.mono _ _ _ _)
      | (with_reducible exact impl_IsClimb.mono _ _ _ _ _)
      | (with_reducible exact impl_MostStrides.mono _ _ _ _)
      | (with_reducible exact impl_NextClimb.mono _ _ _ _ _)
      | (with_reducible exact impl_RankOfClimb.mono _ _ _ _ _)
      | (with_reducible exact impl_StepsOfClimb.mono _ _ _ _ _)
      | (with_reducible exact impl_TurnStairs.mono _ _ _ _)
      | (with_reducible exact laws_lBefore.mono _ _ _)
      | (with_reducible exact laws_lHas.mono _ _ _)
      | (with_reducible exact laws_lRises.mono _ _)
      | (with_reducible exact laws_lSame.mono _ _ _)
      | (with_reducible exact laws_lSum.mono _ _)
      | (with_reducible exact spec_ClimbOfRank.mono _ _ _ _ _)
      | (with_reducible exact spec_CountByStrides.mono _ _ _ _ _)
      | (with_reducible exact spec_CountClimbs.mono _ _ _ _)
      | (with_reducible exact spec_FewestStrides.mono _ _ _ _)
      | (with_reducible exact spec_FirstClimb.mono _ _ _ _)
      | (with_reducible exact spec_FirstFewest.mono _ _ _ _)
      | (with_reducible exact spec_IsClimb.mono _ _ _ _ _)
      | (with_reducible exact spec_MostStrides.mono _ _ _ _)
      | (with_reducible exact spec_NextClimb.mono _ _ _ _ _)
      | (with_reducible exact spec_RankOfClimb.mono _ _ _ _ _)
      | (with_reducible exact spec_StepsOfClimb.mono _ _ _ _ _)
      | (with_reducible exact LeO.refl _)
      | (with_reducible exact LeO.none _)
      | (with_reducible refine LeO.ite ?_ ?_)
      | (with_reducible refine LeO.bind ?_ (fun _ => ?_))
      | exact ih0 _ _ _ _ _ _ _ _ _ _ _ _ _ _ _ _ _ _ _ _ _ _
      | exact ih1 _ _ _ _ _ _ _ _ _ _ _ _ _ _ _ _ _ _
      | exact ih2 _ _ _ _ _ _ _ _ _ _ _ _ _ _ _ _
      | exact ih3 _ _ _ _ _ _ _ _
      | exact ih4 _ _ _ _ _ _ _ _ _
      | exact ih5 _ _ _ _ _ _
      | exact ih6 _ _ _ _ _ _
      | exact ih7 _ _ _ _ _ _ _
      | exact ih8 _ _ _ _ _ _ _ _ _ _ _ _ _ _ _ _ _ _ _ _
      | exact impl_ClimbOfRank.mono _ _ _ _ _
      | exact impl_CountByStrides.mono _ _ _ _ _
      | exact impl_CountClimbs.mono _ _ _ _
      | exact impl_FewestStrides.mono _ _ _ _
      | exact impl_FirstClimb.mono _ _ _ _
      | exact impl_FirstFewest.mono _ _ _ _
      | exact impl_IsClimb.mono _ _ _ _ _
      | exact impl_MostStrides.mono _ _ _ _
      | exact impl_NextClimb.mono _ _ _ _ _
      | exact impl_RankOfClimb.mono _ _ _ _ _
      | exact impl_StepsOfClimb.mono _ _ _ _ _
      | exact impl_TurnStairs.mono _ _ _ _
      | exact laws_lBefore.mono _ _ _
      | exact laws_lHas.mono _ _ _
      | exact laws_lRises.mono _ _
      | exact laws_lSame.mono _ _ _
      | exact laws_lSum.mono _ _
      | exact spec_ClimbOfRank.mono _ _ _ _ _
      | exact spec_CountByStrides.mono _ _ _ _ _
      | exact spec_CountClimbs.mono _ _ _ _
      | exact spec_FewestStrides.mono _ _ _ _
      | exact spec_FirstClimb.mono _ _ _ _
      | exact spec_FirstFewest.mono _ _ _ _
      | exact spec_IsClimb.mono _ _ _ _ _
      | exact spec_MostStrides.mono _ _ _ _
      | exact spec_NextClimb.mono _ _ _ _ _
      | exact spec_RankOfClimb.mono _ _ _ _ _
      | exact spec_StepsOfClimb.mono _ _ _ _ _
      | exact LeO.none _
      | refine LeO.ite ?_ ?_
      | refine LeO.bind ?_ (fun _ => ?_)
    · intro y0 y1 y2 y3 y4 y5 y6 y7 y8 y9 y10 y11 y12 y13 y14 y15 y16 y17 y18 y19
      unfold laws_FnClimbsRankedOfAll.l0
      repeat' first
      | (with_reducible exact ih0 _ _ _ _ _ _ _ _ _ _ _ _ _ _ _ _ _ _ _ _ _ _)
      | (with_reducible exact ih1 _ _ _ _ _ _ _ _ _ _ _ _ _ _ _ _ _ _)
      | (with_reducible exact ih2 _ _ _ _ _ _ _ _ _ _ _ _ _ _ _ _)
      | (with_reducible exact ih3 _ _ _ _ _ _ _ _)
      | (with_reducible exact ih4 _ _ _ _ _ _ _ _ _)
      | (with_reducible exact ih5 _ _ _ _ _ _)
      | (with_reducible exact ih6 _ _ _ _ _ _)
      | (with_reducible exact ih7 _ _ _ _ _ _ _)
      | (with_reducible exact ih8 _ _ _ _ _ _ _ _ _ _ _ _ _ _ _ _ _ _ _ _)
      | (with_reducible exact impl_ClimbOfRank.mono _ _ _ _ _)
      | (with_reducible exact impl_CountByStrides.mono _ _ _ _ _)
      | (with_reducible exact impl_CountClimbs.mono _ _ _ _)
      | (with_reducible exact impl_FewestStrides.mono _ _ _ _)
      | (with_reducible exact impl_FirstClimb.mono _ _ _ _)
      | (with_reducible exact impl_FirstFewest.mono _ _ _ _)
      | (with_reducible exact impl_IsClimb.mono _ _ _ _ _)
      | (with_reducible exact impl_MostStrides.mono _ _ _ _)
      | (with_reducible exact impl_NextClimb.mono _ _ _ _ _)
      | (with_reducible exact impl_RankOfClimb.mono _ _ _ _ _)
      | (with_reducible exact impl_StepsOfClimb.mono _ _ _ _ _)
      | (with_reducible exact impl_TurnStairs.mono _ _ _ _)
      | (with_reducible exact laws_lBefore.mono _ _ _)
      | (with_reducible exact laws_lHas.mono _ _ _)
      | (with_reducible exact laws_lRises.mono _ _)
      | (with_reducible exact laws_lSame.mono _ _ _)
      | (with_reducible exact laws_lSum.mono _ _)
      | (with_reducible exact spec_ClimbOfRank.mono _ _ _ _ _)
      | (with_reducible exact spec_CountByStrides.mono _ _ _ _ _)
      | (with_reducible exact spec_CountClimbs.mono _ _ _ _)
      | (with_reducible exact spec_FewestStrides.mono _ _ _ _)
      | (with_reducible exact spec_FirstClimb.mono _ _ _ _)
      | (with_reducible exact spec_FirstFewest.mono _ _ _ _)
      | (with_reducible exact spec_IsClimb.mono _ _ _ _ _)
      | (with_reducible exact spec_MostStrides.mono _ _ _ _)
      | (with_reducible exact spec_NextClimb.mono _ _ _ _ _)
      | (with_reducible exact spec_RankOfClimb.mono _ _ _ _ _)
      | (with_reducible exact spec_StepsOfClimb.mono _ _ _ _ _)
      | (with_reducible exact LeO.refl _)
      | (with_reducible exact LeO.none _)
      | (with_reducible refine LeO.ite ?_ ?_)
      | (with_reducible refine LeO.bind ?_ (fun _ => ?_))
      | exact ih0 _ _ _ _ _ _ _ _ _ _ _ _ _ _ _ _ _ _ _ _ _ _
      | exact ih1 _ _ _ _ _ _ _ _ _ _ _ _ _ _ _ _ _ _
      | exact ih2 _ _ _ _ _ _ _ _ _ _ _ _ _ _ _ _
      | exact ih3 _ _ _ _ _ _ _ _
      | exact ih4 _ _ _ _ _ _ _ _ _
      | exact ih5 _ _ _ _ _ _
      | exact ih6 _ _ _ _ _ _
      | exact ih7 _ _ _ _ _ _ _
      | exact ih8 _ _ _ _ _ _ _ _ _ _ _ _ _ _ _ _ _ _ _ _
      | exact impl_ClimbOfRank.mono _ _ _ _ _
      | exact impl_CountByStrides.mono _ _ _ _ _
      | exact impl_CountClimbs.mono _ _ _ _
      | exact impl_FewestStrides.mono _ _ _ _
      | exact impl_FirstClimb.mono _ _ _ _
      | exact impl_FirstFewest.mono _ _ _ _
      | exact impl_IsClimb.mono _ _ _ _ _
      | exact impl_MostStrides.mono _ _ _ _
      | exact impl_NextClimb.mono _ _ _ _ _
      | exact impl_RankOfClimb.mono _ _ _ _ _
      | exact impl_StepsOfClimb.mono _ _ _ _ _
      | exact impl_TurnStairs.mono _ _ _ _
      | exact laws_lBefore.mono _ _ _
      | exact laws_lHas.mono _ _ _
      | exact laws_lRises.mono _ _
      | exact laws_lSame.mono _ _ _
      | exact laws_lSum.mono _ _
      | exact spec_ClimbOfRank.mono _ _ _ _ _
      | exact spec_CountByStrides.mono _ _ _ _ _
      | exact spec_CountClimbs.mono _ _ _ _
      | exact spec_FewestStrides.mono _ _ _ _
      | exact spec_FirstClimb.mono _ _ _ _
      | exact spec_FirstFewest.mono _ _ _ _
      | exact spec_IsClimb.mono _ _ _ _ _
      | exact spec_MostStrides.mono _ _ _ _
      | exact spec_NextClimb.mono _ _ _ _ _
      | exact spec_RankOfClimb.mono _ _ _ _ _
      | exact spec_StepsOfClimb.mono _ _ _ _ _
      | exact LeO.none _
      | refine LeO.ite ?_ ?_
      | refine LeO.bind ?_ (fun _ => ?_)
theorem laws_FnClimbsRankedOfAll.mono : ∀ a0 a1 a2 a3 a4 a5 a6 a7 a8 a9 a10 a11 k, LeO (laws_FnClimbsRankedOfAll.f k a0 a1 a2 a3 a4 a5 a6 a7 a8 a9 a10 a11) (laws_FnClimbsRankedOfAll.f (k + 1) a0 a1 a2 a3 a4 a5 a6 a7 a8 a9 a10 a11) := by
  intro a0 a1 a2 a3 a4 a5 a6 a7 a8 a9 a10 a11 k
  obtain ⟨ih0, ih1, ih2, ih3, ih4, ih5, ih6, ih7, ih8⟩ := laws_FnClimbsRankedOfAll.mono_l k
  unfold laws_FnClimbsRankedOfAll.f
  repeat' first
      | (with_reducible exact ih0 _ _ _ _ _ _ _ _ _ _ _ _ _ _ _ _ _ _ _ _ _ _)
      | (with_reducible exact ih1 _ _ _ _ _ _ _ _ _ _ _ _ _ _ _ _ _ _)
      | (with_reducible exact ih2 _ _ _ _ _ _ _ _ _ _ _ _ _ _ _ _)
      | (with_reducible exact ih3 _ _ _ _ _ _ _ _)
      | (with_reducible exact ih4 _ _ _ _ _ _ _ _ _)
      | (with_reducible exact ih5 _ _ _ _ _ _)
      | (with_reducible exact ih6 _ _ _ _ _ _)
      | (with_reducible exact ih7 _ _ _ _ _ _ _)
      | (with_reducible exact ih8 _ _ _ _ _ _ _ _ _ _ _ _ _ _ _ _ _ _ _ _)
      | (with_reducible exact impl_ClimbOfRank.mono _ _ _ _ _)
      | (with_reducible exact impl_CountByStrides.mono _ _ _ _ _)
      | (with_reducible exact impl_CountClimbs.mono _ _ _ _)
      | (with_reducible exact impl_FewestStrides.mono _ _ _ _)
      | (with_reducible exact impl_FirstClimb.mono _ _ _ _)
      | (with_reducible exact impl_FirstFewest.mono _ _ _ _)
      | (with_reducible exact impl_IsClimb.mono _ _ _ _ _)
      | (with_reducible exact impl_MostStrides.mono _ _ _ _)
      | (with_reducible exact impl_NextClimb.mono _ _ _ _ _)
      | (with_reducible exact impl_RankOfClimb.mono _ _ _ _ _)
      | (with_reducible exact impl_StepsOfClimb.mono _ _ _ _ _)
      | (with_reducible exact impl_TurnStairs.mono _ _ _ _)
      | (with_reducible exact laws_lBefore.mono _ _ _)
      | (with_reducible exact laws_lHas.mono _ _ _)
      | (with_reducible exact laws_lRises.mono _ _)
      | (with_reducible exact laws_lSame.mono _ _ _)
      | (with_reducible exact laws_lSum.mono _ _)
      | (with_reducible exact spec_ClimbOfRank.mono _ _ _ _ _)
      | (with_reducible exact spec_CountByStrides.mono _ _ _ _ _)
      | (with_reducible exact spec_CountClimbs.mono _ _ _ _)
      | (with_reducible exact spec_FewestStrides.mono _ _ _ _)
      | (with_reducible exact spec_FirstClimb.mono _ _ _ _)
      | (with_reducible exact spec_FirstFewest.mono _ _ _ _)
      | (with_reducible exact spec_IsClimb.mono _ _ _ _ _)
      | (with_reducible exact spec_MostStrides.mono _ _ _ _)
      | (with_reducible exact spec_NextClimb.mono _ _ _ _ _)
      | (with_reducible exact spec_RankOfClimb.mono _ _ _ _ _)
      | (with_reducible exact spec_StepsOfClimb.mono _ _ _ _ _)
      | (with_reducible exact LeO.refl _)
      | (with_reducible exact LeO.none _)
      | (with_reducible refine LeO.ite ?_ ?_)
      | (with_reducible refine LeO.bind ?_ (fun _ => ?_))
      | exact ih0 _ _ _ _ _ _ _ _ _ _ _ _ _ _ _ _ _ _ _ _ _ _
      | exact ih1 _ _ _ _ _ _ _ _ _ _ _ _ _ _ _ _ _ _
      | exact ih2 _ _ _ _ _ _ _ _ _ _ _ _ _ _ _ _
      | exact ih3 _ _ _ _ _ _ _ _
      | exact ih4 _ _ _ _ _ _ _ _ _
      | exact ih5 _ _ _ _ _ _
      | exact ih6 _ _ _ _ _ _
      | exact ih7 _ _ _ _ _ _ _
      | exact ih8 _ _ _ _ _ _ _ _ _ _ _ _ _ _ _ _ _ _ _ _
      | exact impl_ClimbOfRank.mono _ _ _ _ _
      | exact impl_CountByStrides.mono _ _ _ _ _
      | exact impl_CountClimbs.mono _ _ _ _
      | exact impl_FewestStrides.mono _ _ _ _
      | exact impl_FirstClimb.mono _ _ _ _
      | exact impl_FirstFewest.mono _ _ _ _
      | exact impl_IsClimb.mono _ _ _ _ _
      | exact impl_MostStrides.mono _ _ _ _
      | exact impl_NextClimb.mono _ _ _ _ _
      | exact impl_RankOfClimb.mono _ _ _ _ _
      | exact impl_StepsOfClimb.mono _ _ _ _ _
      | exact impl_TurnStairs.mono _ _ _ _
      | exact laws_lBefore.mono _ _ _
      | exact laws_lHas.mono _ _ _
      | exact laws_lRises.mono _ _
      | exact laws_lSame.mono _ _ _
      | exact laws_lSum.mono _ _
      | exact spec_ClimbOfRank.mono _ _ _ _ _
      | exact spec_CountByStrides.mono _ _ _ _ _
      | exact spec_CountClimbs.mono _ _ _ _
      | exact spec_FewestStrides.mono _ _ _ _
      | exact spec_FirstClimb.mono _ _ _ _
      | exact spec_FirstFewest.mono _ _ _ _
      | exact spec_IsClimb.mono _ _ _ _ _
      | exact spec_MostStrides.mono _ _ _ _
      | exact spec_NextClimb.mono _ _ _ _ _
      | exact spec_RankOfClimb.mono _ _ _ _ _
      | exact spec_StepsOfClimb.mono _ _ _ _ _
      | exact LeO.none _
      | refine LeO.ite ?_ ?_
      | refine LeO.bind ?_ (fun _ => ?_)

/-! ### laws_big: function 41 -/
def laws_big.f (l0 : List Int) (l1 : List Int) : Option (Bool) := if (l0.length : Int) > 1048576 then (some true) else (some (decide ((l1.length : Int) > (wrap64 (1048576 - (l0.length : Int))))))

/-! ### spec_l1Cur_next: function 103 -/
def spec_l1Cur_next.f (s0_0 : List Int) (s0_1 : Int) (s0_2 : Int) : Option (Int × Int × Int) := if s0_1 < (s0_0.length : Int) then (if 0 ≤ s0_1 then (if (wrap64 (s0_1 + 1)) ≤ (s0_0.length : Int) then (some (wrap64 (rd s0_0 s0_1), wrap64 (s0_1 + 1), IntKind.u64.wrap ((IntKind.u64.wrap ((IntKind.u64.wrap (s0_2 * 6364136223846793005)) + (IntKind.u64.wrap (wrap64 (rd s0_0 s0_1))))) + 1442695040888963407))) else (some (wrap64 (Go.bits .and .u64 ((IntKind.u64.wrap ((IntKind.u64.wrap ((IntKind.u64.wrap (s0_2 * 6364136223846793005)) + (IntKind.u64.wrap (wrap64 (rd s0_0 s0_1))))) + 1442695040888963407)) / 1099511627776) 255), wrap64 (s0_1 + 1), IntKind.u64.wrap ((IntKind.u64.wrap ((IntKind.u64.wrap (s0_2 * 6364136223846793005)) + (IntKind.u64.wrap (wrap64 (rd s0_0 s0_1))))) + 1442695040888963407)))) else (none)) else (if (wrap64 (s0_1 + 1)) ≤ (s0_0.length : Int) then (some (0, wrap64 (s0_1 + 1), IntKind.u64.wrap ((IntKind.u64.wrap ((IntKind.u64.wrap (s0_2 * 6364136223846793005)) + 0)) + 1442695040888963407))) else (some (wrap64 (Go.bits .and .u64 ((IntKind.u64.wrap ((IntKind.u64.wrap ((IntKind.u64.wrap (s0_2 * 6364136223846793005)) + 0)) + 1442695040888963407)) / 1099511627776) 255), wrap64 (s0_1 + 1), IntKind.u64.wrap ((IntKind.u64.wrap ((IntKind.u64.wrap (s0_2 * 6364136223846793005)) + 0)) + 1442695040888963407))))

/-! ### spec_l1Cur_pick: function 88 -/
def spec_l1Cur_pick.f (s0_0 : List Int) (s0_1 : Int) (s0_2 : Int) (a1 : Int) : Option (Int × Int × Int) := if a1 ≤ 1 then (some (0, s0_1, s0_2)) else ((spec_l1Cur_next.f s0_0 s0_1 s0_2).bind fun bt738 => (if a1 > 200 then ((spec_l1Cur_next.f s0_0 bt738.2.1 bt738.2.2).bind fun bt741 => (if a1 = 0 then (none) else (some (Int.tmod (wrap64 ((wrap64 (bt738.1 * 256)) + bt741.1)) a1, bt741.2.1, bt741.2.2)))) else (if a1 = 0 then (none) else (some (Int.tmod bt738.1 a1, bt738.2.1, bt738.2.2)))))

/-! ### spec_l1Cur_among: function 75 -/
def spec_l1Cur_among.f (s0_0 : List Int) (s0_1 : Int) (s0_2 : Int) (l1 : List Int) : Option (Int × Int × Int) := (spec_l1Cur_pick.f s0_0 s0_1 s0_2 (l1.length : Int)).bind fun bt744 => (if 0 ≤ bt744.1 then (if bt744.1 < (l1.length : Int) then (some (rd l1 bt744.1, bt744.2.1, bt744.2.2)) else (none)) else (none))

/-! ### spec_l1Cur_one: function 102 -/
def spec_l1Cur_one.f (s0_0 : List Int) (s0_1 : Int) (s0_2 : Int) (a1 : Int) : Option (Bool × Int × Int) := (spec_l1Cur_pick.f s0_0 s0_1 s0_2 a1).bind fun bt748 => (some ((bt748.1 == 0), bt748.2.1, bt748.2.2))

/-! ### spec_l1Cur_sureStairs: function 87 -/
mutual
def spec_l1Cur_sureStairs.l0 : Nat → Int → List Int → Int → Int → Int → List Int → Option (Int × List Int × List Int × Int × Int)
  | 0, _, _, _, _, _, _ => none
  | k + 1, x6, x1000, x1001, x1002, x756000, x756001 => if x6 ≤ 4 then ((spec_l1Cur_one.f x1000 x1001 x1002 2).bind fun bt756 => (if bt756.1 = true then (if x756001.length < 17592186044416 then (spec_l1Cur_sureStairs.l0 k (wrap64 (x6 + 1)) x1000 bt756.2.1 bt756.2.2 x756000 (x756001 ++ [x6])) else (none)) else (spec_l1Cur_sureStairs.l0 k (wrap64 (x6 + 1)) x1000 bt756.2.1 bt756.2.2 x756000 x756001))) else (if (x756001.length : Int) = 0 then (spec_l1Cur_sureStairs.j1 k x1000 x1001 x1002 x756000 (([1, 2] : List Int))) else (spec_l1Cur_sureStairs.j1 k x1000 x1001 x1002 x756000 x756001))
def spec_l1Cur_sureStairs.j1 : Nat → List Int → Int → Int → Int → List Int → Option (Int × List Int × List Int × Int × Int)
  | 0, _, _, _, _, _ => none
  | k + 1, x1000, x1001, x1002, x756000, x756001 => spec_l1Cur_sureStairs.l1 k 1 x1000 x1001 x1002 x756000 x756001 ([] : List Int)
def spec_l1Cur_sureStairs.l1 : Nat → Int → List Int → Int → Int → Int → List Int → List Int → Option (Int × List Int × List Int × Int × Int)
  | 0, _, _, _, _, _, _, _ => none
  | k + 1, x7, x1000, x1001, x1002, x756000, x756001, x756002 => if x7 < x756000 then ((spec_l1Cur_one.f x1000 x1001 x1002 6).bind fun bt765 => (if bt765.1 = true then (if x756002.length < 17592186044416 then (spec_l1Cur_sureStairs.l1 k (wrap64 (x7 + 1)) x1000 bt765.2.1 bt765.2.2 x756000 x756001 (x756002 ++ [x7])) else (none)) else (spec_l1Cur_sureStairs.l1 k (wrap64 (x7 + 1)) x1000 bt765.2.1 bt765.2.2 x756000 x756001 x756002))) else (some (x756000, x756001, x756002, x1001, x1002))
end
def spec_l1Cur_sureStairs.f (k : Nat) (s0_0 : List Int) (s0_1 : Int) (s0_2 : Int) (a1 : Int) : Option (Int × List Int × List Int × Int × Int) := (spec_l1Cur_pick.f s0_0 s0_1 s0_2 a1).bind fun bt752 => (spec_l1Cur_sureStairs.l0 k 1 s0_0 bt752.2.1 bt752.2.2 (wrap64 (1 + bt752.1)) ([] : List Int))
theorem spec_l1Cur_sureStairs.mono_l : ∀ k, (∀ y0 y1 y2 y3 y4 y5, LeO (spec_l1Cur_sureStairs.l0 k y0 y1 y2 y3 y4 y5) (spec_l1Cur_sureStairs.l0 (k + 1) y0 y1 y2 y3 y4 y5)) ∧ (∀ y0 y1 y2 y3 y4, LeO (spec_l1Cur_sureStairs.j1 k y0 y1 y2 y3 y4) (spec_l1Cur_sureStairs.j1 (k + 1) y0 y1 y2 y3 y4)) ∧ (∀ y0 y1 y2 y3 y4 y5 y6, LeO (spec_l1Cur_sureStairs.l1 k y0 y1 y2 y3 y4 y5 y6) (spec_l1Cur_sureStairs.l1 (k + 1) y0 y1 y2 y3 y4 y5 y6))
  | 0 => ⟨fun _ _ _ _ _ _ r h => by simp [spec_l1Cur_sureStairs.l0] at h, fun _ _ _ _ _ r h => by simp [spec_l1Cur_sureStairs.j1] at h, fun _ _ _ _ _ _ _ r h => by simp [spec_l1Cur_sureStairs.l1] at h⟩
  | k + 1 => by
    obtain ⟨ih0, ih1, ih2⟩ := spec_l1Cur_sureStairs.mono_l k
    refine ⟨?_, ?_, ?_⟩
    · intro y0 y1 y2 y3 y4 y5
      unfold spec_l1Cur_sureStairs.l0
      repeat' first
      | (with_reducible exact ih0 _ _ _ _ _ _)
      | (with_reducible exact ih1 _ _ _ _ _)
      | (with_reducible exact ih2 _ _ _ _ _ _ _)
      | (with_reducible exact LeO.refl _)
      | (with_reducible exact LeO.none _)
      | (with_reducible refine LeO.ite ?_ ?_)
      | (with_reducible refine LeO.bind ?_ (fun _ => ?_))
      | exact ih0 _ _ _ _ _ _
      | exact ih1 _ _ _ _ _
      | exact ih2 _ _ _ _ _ _ _
      | exact LeO.none _
      | refine LeO.ite ?_ ?_
      | refine LeO.bind ?_ (fun _ => ?_)
    · intro y0 y1 y2 y3 y4
      unfold spec_l1Cur_sureStairs.j1
      repeat' first
      | (with_reducible exact ih0 _ _ _ _ _ _)
      | (with_reducible exact ih1 _ _ _ _ _)
      | (with_reducible exact ih2 _ _ _ _ _ _ _)
      | (with_reducible exact LeO.refl _)
      | (with_reducible exact LeO.none _)
      | (with_reducible refine LeO.ite ?_ ?_)
      | (with_reducible refine LeO.bind ?_ (fun _ => ?_))
      | exact ih0 _ _ _ _ _ _
      | exact ih1 _ _ _ _ _
      | exact ih2 _ _ _ _ _ _ _
      | exact LeO.none _
      | refine LeO.ite ?_ ?_
      | refine LeO.bind ?_ (fun _ => ?_)
    · intro y0 y1 y2 y3 y4 y5 y6
      unfold spec_l1Cur_sureStairs.l1
      repeat' first
      | (with_reducible exact ih0 _ _ _ _ _ _)
      | (with_reducible exact ih1 _ _ _ _ _)
      | (with_reducible exact ih2 _ _ _ _ _ _ _)
      | (with_reducible exact LeO.refl _)
      | (with_reducible exact LeO.none _)
      | (with_reducible refine LeO.ite ?_ ?_)
      | (with_reducible refine LeO.bind ?_ (fun _ => ?_))
      | exact ih0 _ _ _ _ _ _
      | exact ih1 _ _ _ _ _
      | exact ih2 _ _ _ _ _ _ _
      | exact LeO.none _
      | refine LeO.ite ?_ ?_
      | refine LeO.bind ?_ (fun _ => ?_)
theorem spec_l1Cur_sureStairs.mono : ∀ a0 a1 a2 a3 k, LeO (spec_l1Cur_sureStairs.f k a0 a1 a2 a3) (spec_l1Cur_sureStairs.f (k + 1) a0 a1 a2 a3) := by
  intro a0 a1 a2 a3 k
  obtain ⟨ih0, ih1, ih2⟩ := spec_l1Cur_sureStairs.mono_l k
  unfold spec_l1Cur_sureStairs.f
  repeat' first
      | (with_reducible exact ih0 _ _ _ _ _ _)
      | (with_reducible exact ih1 _ _ _ _ _)
      | (with_reducible exact ih2 _ _ _ _ _ _ _)
      | (with_reducible exact LeO.refl _)
      | (with_reducible exact LeO.none _)
      | (with_reducible refine LeO.ite ?_ ?_)
      | (with_reducible refine LeO.bind ?_ (fun _ => ?_))
      | exact ih0 _ _ _ _ _ _
      | exact ih1 _ _ _ _ _
      | exact ih2 _ _ _ _ _ _ _
      | exact LeO.none _
      | refine LeO.ite ?_ ?_
      | refine LeO.bind ?_ (fun _ => ?_)

/-! ### spec_l1Cur_stairs: function 74 -/
def spec_l1Cur_stairs.f (k : Nat) (s0_0 : List Int) (s0_1 : Int) (s0_2 : Int) : Option (Int × List Int × List Int × Int × Int) := (spec_l1Cur_sureStairs.f k s0_0 s0_1 s0_2 12).bind fun bt772 => ((spec_l1Cur_pick.f s0_0 bt772.2.2.2.1 bt772.2.2.2.2 18).bind fun bt782 => (if bt782.1 = 0 then ((spec_l1Cur_among.f s0_0 bt782.2.1 bt782.2.2 (([0, (-1), 60, 61, 4611686018427387904] : List Int))).bind fun bt788 => (some (bt788.1, bt772.2.1, bt772.2.2.1, bt788.2.1, bt788.2.2))) else (if bt782.1 = 1 then ((some (([[], (([0] : List Int)), (([1, 1] : List Int)), (([2, 1] : List Int)), (([9] : List Int)), (([10] : List Int)), (([1, 2, 3, 4, 5] : List Int)), (([1, 2, 3, 4, 5, 6] : List Int))] : List (List Int)) : List (List Int))).bind fun y812 => ((spec_l1Cur_pick.f s0_0 bt782.2.1 bt782.2.2 8).bind fun bt815 => (if 0 ≤ bt815.1 then (if bt815.1 < (y812.length : Int) then (some (bt772.1, rd_L1 y812 bt815.1, bt772.2.2.1, bt815.2.1, bt815.2.2)) else (none)) else (none)))) else (if bt782.1 = 2 then ((spec_l1Cur_among.f s0_0 bt782.2.1 bt782.2.2 (([(-1), 0, wrap64 (bt772.1 - 1), bt772.1, 1] : List Int))).bind fun bt822 => (if bt772.2.2.1.length < 17592186044416 then (some (bt772.1, bt772.2.1, (bt772.2.2.1 ++ [bt822.1]), bt822.2.1, bt822.2.2)) else (none))) else (if bt782.1 = 3 then (some (60, (([1, 2, 3] : List Int)), ([] : List Int), bt782.2.1, bt782.2.2)) else (some (bt772.1, bt772.2.1, bt772.2.2.1, bt782.2.1, bt782.2.2)))))))
theorem spec_l1Cur_stairs.mono : ∀ a0 a1 a2 k, LeO (spec_l1Cur_stairs.f k a0 a1 a2) (spec_l1Cur_stairs.f (k + 1) a0 a1 a2) := by
  intro a0 a1 a2 k
  unfold spec_l1Cur_stairs.f
  repeat' first
      | (with_reducible exact spec_l1Cur_sureStairs.mono _ _ _ _ _)
      | (with_reducible exact LeO.refl _)
      | (with_reducible exact LeO.none _)
      | (with_reducible refine LeO.ite ?_ ?_)
      | (with_reducible refine LeO.bind ?_ (fun _ => ?_))
      | exact spec_l1Cur_sureStairs.mono _ _ _ _ _
      | exact LeO.none _
      | refine LeO.ite ?_ ?_
      | refine LeO.bind ?_ (fun _ => ?_)

/-! ### spec_l1Cur_climbed: function 89 -/
mutual
def spec_l1Cur_climbed.j3 : Nat → List Int → List Int → Int → Int → Int → List Int → List Int → Option (Int × List Int × List Int × List Int × Int × Int)
  | 0, _, _, _, _, _, _, _ => none
  | k + 1, x5, x1000, x1001, x1002, x860000, x860001, x860002 => (spec_l1Cur_one.f x1000 x1001 x1002 12).bind fun bt876 => (if bt876.1 = true then ((spec_l1Cur_among.f x1000 bt876.2.1 bt876.2.2 (([(-1), 0, 1, 4611686018427387904] : List Int))).bind fun bt882 => (if x5.length < 17592186044416 then (some (x860000, x860001, x860002, (x5 ++ [bt882.1]), bt882.2.1, bt882.2.2)) else (none))) else (some (x860000, x860001, x860002, x5, bt876.2.1, bt876.2.2)))
def spec_l1Cur_climbed.l0 : Nat → List Int → List Int → Int → List Int → Int → Int → Int → List Int → List Int → Option (Int × List Int × List Int × List Int × Int × Int)
  | 0, _, _, _, _, _, _, _, _, _ => none
  | k + 1, x5, x6, x7, x1000, x1001, x1002, x860000, x860001, x860002 => if x7 < x860000 then (if 0 ≤ x7 then (if x7 < (x6.length : Int) then (spec_l1Cur_climbed.j1 k x5 x6 x7 (decide ((rd x6 x7) > 0)) x1000 x1001 x1002 x860000 x860001 x860002) else (none)) else (none)) else (spec_l1Cur_climbed.j1 k x5 x6 x7 false x1000 x1001 x1002 x860000 x860001 x860002)
def spec_l1Cur_climbed.j1 : Nat → List Int → List Int → Int → Bool → List Int → Int → Int → Int → List Int → List Int → Option (Int × List Int × List Int × List Int × Int × Int)
  | 0, _, _, _, _, _, _, _, _, _, _ => none
  | k + 1, x5, x6, x7, x28, x1000, x1001, x1002, x860000, x860001, x860002 => if x28 = true then (spec_l1Cur_climbed.l1 k x5 x6 x7 ([] : List Int) x860001 (x860001.length : Int) 0 x1000 x1001 x1002 x860000 x860001 x860002) else (spec_l1Cur_climbed.j3 k x5 x1000 x1001 x1002 x860000 x860001 x860002)
def spec_l1Cur_climbed.l1 : Nat → List Int → List Int → Int → List Int → List Int → Int → Int → List Int → Int → Int → Int → List Int → List Int → Option (Int × List Int × List Int × List Int × Int × Int)
  | 0, _, _, _, _, _, _, _, _, _, _, _, _, _ => none
  | k + 1, x5, x6, x7, x8, x30, x31, x32, x1000, x1001, x1002, x860000, x860001, x860002 => if x32 < x31 then (if 0 ≤ x32 then (if x32 < (x30.length : Int) then (if (wrap64 (x7 + (rd x30 x32))) ≤ x860000 then (if 0 ≤ (wrap64 (x7 + (rd x30 x32))) then (if (wrap64 (x7 + (rd x30 x32))) < (x6.length : Int) then (if (rd x6 (wrap64 (x7 + (rd x30 x32)))) > 0 then (if x8.length < 17592186044416 then (spec_l1Cur_climbed.l1 k x5 x6 x7 (x8 ++ [rd x30 x32]) x30 x31 (wrap64 (x32 + 1)) x1000 x1001 x1002 x860000 x860001 x860002) else (none)) else (spec_l1Cur_climbed.l1 k x5 x6 x7 x8 x30 x31 (wrap64 (x32 + 1)) x1000 x1001 x1002 x860000 x860001 x860002)) else (none)) else (none)) else (spec_l1Cur_climbed.l1 k x5 x6 x7 x8 x30 x31 (wrap64 (x32 + 1)) x1000 x1001 x1002 x860000 x860001 x860002)) else (none)) else (none)) else ((spec_l1Cur_among.f x1000 x1001 x1002 x8).bind fun bt870 => (if x5.length < 17592186044416 then (spec_l1Cur_climbed.l0 k (x5 ++ [bt870.1]) x6 (wrap64 (x7 + bt870.1)) x1000 bt870.2.1 bt870.2.2 x860000 x860001 x860002) else (none)))
end
def spec_l1Cur_climbed.f (k : Nat) (s0_0 : List Int) (s0_1 : Int) (s0_2 : Int) : Option (Int × List Int × List Int × List Int × Int × Int) := (spec_l1Cur_stairs.f k s0_0 s0_1 s0_2).bind fun bt850 => ((spec_clGood.f k bt850.1 bt850.2.1 bt850.2.2.1).bind fun t860 => (if t860 = true then ((spec_clWays.f k bt850.1 bt850.2.1 bt850.2.2.1).bind fun t861 => (spec_l1Cur_climbed.l0 k ([] : List Int) t861 0 s0_0 bt850.2.2.2.1 bt850.2.2.2.2 bt850.1 bt850.2.1 bt850.2.2.1)) else (spec_l1Cur_climbed.j3 k ([] : List Int) s0_0 bt850.2.2.2.1 bt850.2.2.2.2 bt850.1 bt850.2.1 bt850.2.2.1)))
theorem spec_l1Cur_climbed.mono_l : ∀ k, (∀ y0 y1 y2 y3 y4 y5 y6, LeO (spec_l1Cur_climbed.j3 k y0 y1 y2 y3 y4 y5 y6) (spec_l1Cur_climbed.j3 (k + 1) y0 y1 y2 y3 y4 y5 y6)) ∧ (∀ y0 y1 y2 y3 y4 y5 y6 y7 y8, LeO (spec_l1Cur_climbed.l0 k y0 y1 y2 y3 y4 y5 y6 y7 y8) (spec_l1Cur_climbed.l0 (k + 1) y0 y1 y2 y3 y4 y5 y6 y7 y8)) ∧ (∀ y0 y1 y2 y3 y4 y5 y6 y7 y8 y9, LeO (spec_l1Cur_climbed.j1 k y0 y1 y2 y3 y4 y5 y6 y7 y8 y9) (spec_l1Cur_climbed.j1 (k + 1) y0 y1 y2 y3 y4 y5 y6 y7 y8 y9)) ∧ (∀ y0 y1 y2 y3 y4 y5 y6 y7 y8 y9 y10 y11 y12, LeO (spec_l1Cur_climbed.l1 k y0 y1 y2 y3 y4 y5 y6 y7 y8 y9 y10 y11 y12) (spec_l1Cur_climbed.l1 (k + 1) y0 y1 y2 y3 y4 y5 y6 y7 y8 y9 y10 y11 y12))
  | 0 => ⟨fun _ _ _ _ _ _ _ r h => by simp [spec_l1Cur_climbed.j3] at h, fun _ _ _ _ _ _ _ _ _ r h => by simp [spec_l1Cur_climbed.l0] at h, fun _ _ _ _ _ _ _ _ _ _ r h => by simp [spec_l1Cur_climbed.j1] at h, fun _ _ _ _ _ _ _ _ _ _ _ _ _ r h => by simp [spec_l1Cur_climbed.l1] at h⟩
  | k + 1 => by
    obtain ⟨ih0, ih1, ih2, ih3⟩ := spec_l1Cur_climbed.mono_l k
    refine ⟨?_, ?_, ?_, ?_⟩
    · intro y0 y1 y2 y3 y4 y5 y6
      unfold spec_l1Cur_climbed.j3
      repeat' first
      | (with_reducible exact ih0 _ _ _ _ _ _ _)
      | (with_reducible exact ih1 _ _ _ _ _ _ _ _ _)
      | (with_reducible exact ih2 _ _ _ _ _ _ _ _ _ _)
      | (with_reducible exact ih3 _ _ _ _ _ _ _ _ _ _ _ _ _)
      | (with_reducible exact spec_clGood.mono _ _ _ _)
      | (with_reducible exact spec_clWays.mono _ _ _ _)
      | (with_reducible exact spec_l1Cur_stairs.mono _ _ _ _)
      | (with_reducible exact LeO.refl _)
      | (with_reducible exact LeO.none _)
      | (with_reducible refine LeO.ite ?_ ?_)
      | (with_reducible refine LeO.bind ?_ (fun _ => ?_))
      | exact ih0 _ _ _ _ _ _ _
      | exact ih1 _ _ _ _ _ _ _ _ _
      | exact ih2 _ _ _ _ _ _ _ _ _ _
      | exact ih3 _ _ _ _ _ _ _ _ _ _ _ _ _
      | exact spec_clGood.mono _ _ _ _
      | exact spec_clWays.mono _ _ _ _
      | exact spec_l1Cur_stairs.mono _ _ _ _
      | exact LeO.none _
      | refine LeO.ite ?_ ?_
      | refine LeO.bind ?_ (fun _ => ?_)
    · intro y0 y1 y2 y3 y4 y5 y6 y7 y8
      unfold spec_l1Cur_climbed.l0
      repeat' first
      | (with_reducible exact ih0 _ _ _ _ _ _ _)
      | (with_reducible exact ih1 _ _ _ _ _ _ _ _ _)
      | (with_reducible exact ih2 _ _ _ _ _ _ _ _ _ _)
      | (with_reducible exact ih3 _ _ _ _ _ _ _ _ _ _ _ _ _)
      | (with_reducible exact spec_clGood.mono _ _ _ _)
      | (with_reducible exact spec_clWays.mono _ _ _ _)
      | (with_reducible exact spec_l1Cur_stairs.mono _ _ _ _)
      | (with_reducible exact LeO.refl _)
      | (with_reducible exact LeO.none _)
      | (with_reducible refine LeO.ite ?_ ?_)
      | (with_reducible refine LeO.bind ?_ (fun _ => ?_))
      | exact ih0 _ _ _ _ _ _ _
      | exact ih1 _ _ _ _ _ _ _ _ _
      | exact ih2 _ _ _ _ _ _ _ _ _ _
      | exact ih3 _ _ _ _ _ _ _ _ _ _ _ _ _
      | exact spec_clGood.mono _ _ _ _
      | exact spec_clWays.mono _ _ _ _
      | exact spec_l1Cur_stairs.mono _ _ _ _
      | exact LeO.none _
      | refine LeO.ite ?_ ?_
      | refine LeO.bind ?_ (fun _ => ?_)
    · intro y0 y1 y2 y3 y4 y5 y6 y7 y8 y9
      unfold spec_l1Cur_climbed.j1
      repeat' first
      | (with_reducible exact ih0 _ _ _ _ _ _ _)
      | (with_reducible exact ih1 _ _ _ _ _ _ _ _ _)
      | (with_reducible exact ih2 _ _ _ _ _ _ _ _ _ _)
      | (with_reducible exact ih3 _ _ _ _ _ _ _ _ _ _ _ _ _)
      | (with_reducible exact spec_clGood.mono _ _ _ _)
      | (with_reducible exact spec_clWays.mono _ _ _ _)
      | (with_reducible exact spec_l1Cur_stairs.mono _ _ _ _)
      | (with_reducible exact LeO.refl _)
      | (with_reducible exact LeO.none _)
      | (with_reducible refine LeO.ite ?_ ?_)
      | (with_reducible refine LeO.bind ?_ (fun _ => ?_))
      | exact ih0 _ _ _ _ _ _ _
      | exact ih1 _ _ _ _ _ _ _ _ _
      | exact ih2 _ _ _ _ _ _ _ _ _ _
      | exact ih3 _ _ _ _ _ _ _ _ _ _ _ _ _
      | exact spec_clGood.mono _ _ _ _
      | exact spec_clWays.mono _ _ _ _
      | exact spec_l1Cur_stairs.mono _ _ _ _
      | exact LeO.none _
      | refine LeO.ite ?_ ?_
      | refine LeO.bind ?_ (fun _ => ?_)
    · intro y0 y1 y2 y3 y4 y5 y6 y7 y8 y9 y10 y11 y12
      unfold spec_l1Cur_climbed.l1
      repeat' first
      | (with_reducible exact ih0 _ _ _ _ _ _ _)
      | (with_reducible exact ih1 _ _ _ _ _ _ _ _ _)
      | (with_reducible exact ih2 _ _ _ _ _ _ _ _ _ _)
      | (with_reducible exact ih3 _ _ _ _ _ _ _ _ _ _ _ _ _)
      | (with_reducible exact spec_clGood.mono _ _ _ _)
      | (with_reducible exact spec_clWays.mono _ _ _ _)
      | (with_reducible exact spec_l1Cur_stairs.mono _ _ _ _)
      | (with_reducible exact LeO.refl _)
      | (with_reducible exact LeO.none _)
      | (with_reducible refine LeO.ite ?_ ?_)
      | (with_reducible refine LeO.bind ?_ (fun _ => ?_))
      | exact ih0 _ _ _ _ _ _ _
      | exact ih1 _ _ _ _ _ _ _ _ _
      | exact ih2 _ _ _ _ _ _ _ _ _ _
      | exact ih3 _ _ _ _ _ _ _ _ _ _ _ _ _
      | exact spec_clGood.mono _ _ _ _
      | exact spec_clWays.mono _ _ _ _
      | exact spec_l1Cur_stairs.mono _ _ _ _
      | exact LeO.none _
      | refine LeO.ite ?_ ?_
      | refine LeO.bind ?_ (fun _ => ?_)
theorem spec_l1Cur_climbed.mono : ∀ a0 a1 a2 k, LeO (spec_l1Cur_climbed.f k a0 a1 a2) (spec_l1Cur_climbed.f (k + 1) a0 a1 a2) := by
  intro a0 a1 a2 k
  obtain ⟨ih0, ih1, ih2, ih3⟩ := spec_l1Cur_climbed.mono_l k
  unfold spec_l1Cur_climbed.f
  repeat' first
      | (with_reducible exact ih0 _ _ _ _ _ _ _)
      | (with_reducible exact ih1 _ _ _ _ _ _ _ _ _)
      | (with_reducible exact ih2 _ _ _ _ _ _ _ _ _ _)
      | (with_reducible exact ih3 _ _ _ _ _ _ _ _ _ _ _ _ _)
      | (with_reducible exact spec_clGood.mono _ _ _ _)
      | (with_reducible exact spec_clWays.mono _ _ _ _)
      | (with_reducible exact spec_l1Cur_stairs.mono _ _ _ _)
      | (with_reducible exact LeO.refl _)
      | (with_reducible exact LeO.none _)
      | (with_reducible refine LeO.ite ?_ ?_)
      | (with_reducible refine LeO.bind ?_ (fun _ => ?_))
      | exact ih0 _ _ _ _ _ _ _
      | exact ih1 _ _ _ _ _ _ _ _ _
      | exact ih2 _ _ _ _ _ _ _ _ _ _
      | exact ih3 _ _ _ _ _ _ _ _ _ _ _ _ _
      | exact spec_clGood.mono _ _ _ _
      | exact spec_clWays.mono _ _ _ _
      | exact spec_l1Cur_stairs.mono _ _ _ _
      | exact LeO.none _
      | refine LeO.ite ?_ ?_
      | refine LeO.bind ?_ (fun _ => ?_)

end Go.Proofs.Yteiamophnfkgmaa.X
