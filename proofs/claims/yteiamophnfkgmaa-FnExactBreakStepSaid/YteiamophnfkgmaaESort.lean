/- What slices.Sort of numbers leaves in a row of the call's own: the same numbers in increasing order; nothing else is changed. -/
import Derived.Test.YteiamophnfkgmaaXxF0
import Derived.Test.YteiamophnfkgmaaShelf
namespace Go.Proofs.Yteiamophnfkgmaa.X
open Go.RowKit Go.Sort Go.Proofs.YteiamophnfkgmaaW.PrintWords Go.Proofs.YteiamophnfkgmaaW.PrintLast Go.Proofs.YteiamophnfkgmaaW.PrintMore

theorem sort_world_at (w : World) (g n : Nat) (d : Array Int) (os : Array Obj) (i : Nat) (hi : i < w.heap.size) :
    (grow (putRow (Value.int .i64) (Sort.ahead w n) g 0 d) os).heap[i]? = if g = i then (w.heap[i]?).map (onCells (putCells (Value.int .i64) 0 d)) else w.heap[i]? := by
  simp only [grow, putRow, mapBlock, Sort.ahead]
  rw [Array.getElem?_append_left (by simpa using hi), Array.getElem?_modify]
theorem sort_world_size (w : World) (g n : Nat) (d : Array Int) (os : Array Obj) : w.heap.size ≤ (grow (putRow (Value.int .i64) (Sort.ahead w n) g 0 d) os).heap.size := by
  simp only [grow, putRow, mapBlock, Sort.ahead, Array.size_append, Array.size_modify]; omega
theorem putCells_take (xs : List Int) (cur : Array Value) (h : xs.length ≤ cur.size) : (putCells (Value.int .i64) 0 xs.toArray cur).toList.take xs.length = nums .i64 xs := by
  apply List.ext_getElem?
  intro j
  simp only [putCells, nums, List.getElem?_take, List.getElem?_map]
  by_cases hj : j < xs.length
  · rw [if_pos hj, Array.getElem?_toList, Array.getElem?_mapIdx, Array.getElem?_eq_getElem (show j < cur.size by omega), Option.map_some, if_pos ⟨by omega, by simpa using hj⟩, List.getElem?_eq_getElem hj]
    simp [getElem!_pos, hj]
  · rw [if_neg hj, List.getElem?_eq_none (by omega)]; rfl

theorem slices_Sort_int_int.calls (P0_ : Nat → Prop) (u9000_ : Value) (l0 : List Int) (r : List Int) (w0 w : World) (hB : Below w0.heap.size w0 w) (ho0 : Kd.R (Kd.int .i64) 3 w w0.heap.size P0_ u9000_ l0) (h : slices_Sort_int_int.f l0 = some r) :
    Calls Try.prog 55 #[u9000_] w fun e w' => e = .returned (.tuple #[]) ∧ Kd.R (Kd.int .i64) 3 w' w0.heap.size (fun k_ => (P0_ k_ ∨ w.heap.size ≤ k_)) u9000_ r ∧ Below w0.heap.size w0 w' ∧ Kept w w' (fun k_ => P0_ k_) := by
  unfold slices_Sort_int_int.f at h
  split at h
  case isFalse => exact absurd h (by simp)
  case isTrue hlen =>
  obtain rfl : (l0.mergeSort fun x y => decide (x ≤ y)) = r := Option.some.inj h
  clear h
  have ho := Kd.own_of_R ho0
  rcases ho.2 with ⟨rfl, hn⟩ | ⟨g, cap, cur, rfl, hg, hh, hn, hcap, hsz, hcur⟩
  · obtain rfl : l0 = [] := List.eq_nil_of_length_eq_zero hn
    refine (Try.slices_Sort_int_none none 0 w).mono ?_
    rintro e w' ⟨rfl, rfl⟩
    exact ⟨rfl, by simpa using Kd.R_nil _ _ _ _ _, hB, Kept.refl _ _⟩
  · have hlt : g < w.heap.size := (Array.getElem?_eq_some_iff.1 hh).1
    have hP : P0_ g := ho0.1 g rfl
    have hH : Holds (Value.int .i64) w g 0 l0.toArray := by
      intro j hj
      have hj' : j < l0.length := by simpa using hj
      refine ⟨?_, by simp [World.frozen?, hh]⟩
      have hc := ho.cells (g := g) rfl j (.int .i64 l0[j]) (by simp [encs, List.getElem?_eq_getElem hj'])
      have ha : (⟨g, 0, none⟩ : Addr).add j = ⟨g, 0 + j, none⟩ := by unfold Addr.add; split <;> simp_all
      rw [ha] at hc
      rw [hc]; simp [getElem!_pos, hj']
    have hl2 : (l0.mergeSort fun x y => decide (x ≤ y)).length = l0.length := List.length_mergeSort _
    refine (Try.slices_Sort_int g 0 cap l0 w hH hlt hlen).mono ?_
    rintro e w' ⟨rfl, n, os, rfl⟩
    generalize (l0.mergeSort fun x y => decide (x ≤ y)) = ys at hl2 ⊢
    refine ⟨rfl, ?_, ?_, ?_⟩
    · refine Kd.R_of_own ⟨by simp [encs], .inr ⟨g, cap, putCells (Value.int .i64) 0 ys.toArray cur, by rw [hl2], hg, ?_, by omega, hcap, by simpa [putCells] using hsz, ?_⟩⟩ ?_
      · rw [sort_world_at w g n _ os g hlt, if_pos rfl, hh]; rfl
      · rw [Nat.mul_one]
        exact putCells_take ys cur (by omega)
      · intro k hk
        have : g = k := by simpa [Value.ownBlock] using hk
        exact .inl (this ▸ hP)
    · refine ⟨hB.os, hB.tape, hB.output, Nat.le_trans hB.size (sort_world_size _ _ _ _ _), fun i hi => ?_⟩
      rw [sort_world_at w g n _ os i (Nat.lt_of_lt_of_le hi hB.size), if_neg (by omega)]
      exact hB.block i hi
    · refine ⟨sort_world_size _ _ _ _ _, fun i hi hn => ?_⟩
      rw [sort_world_at w g n _ os i hi, if_neg (by rintro rfl; exact hn hP)]
end Go.Proofs.Yteiamophnfkgmaa.X
