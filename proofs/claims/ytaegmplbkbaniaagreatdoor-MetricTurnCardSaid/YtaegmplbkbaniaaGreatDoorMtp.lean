/-
  Scores of vectors of four small numbers, plainly. No condition but the bounds told.
-/
import Derived.Test.YtaegmplbkbaniaaGreatDoorDis
set_option linter.all false
namespace Go.Proofs.YtaegmplbkbaniaaGreatDoor
open Go
set_option maxRecDepth 10000
theorem list4 {l : List Int} (h : l.length = 4) : l = [l.getD 0 0, l.getD 1 0, l.getD 2 0, l.getD 3 0] := by
  match l, h with
  | [a, b, c, d], _ => rfl
def in5 (l : List Int) : Prop := ∀ z ∈ l, -100000 < z ∧ z < 100000
theorem in5_small {l : List Int} (h : in5 l) : small l := fun z hz => by have := h z hz; omega
theorem d2_four (a b : List Int) (ha : a.length = 4) (hb : b.length = 4) : d2 a b = (a.getD 0 0 - b.getD 0 0) * (a.getD 0 0 - b.getD 0 0) + ((a.getD 1 0 - b.getD 1 0) * (a.getD 1 0 - b.getD 1 0) + ((a.getD 2 0 - b.getD 2 0) * (a.getD 2 0 - b.getD 2 0) + ((a.getD 3 0 - b.getD 3 0) * (a.getD 3 0 - b.getD 3 0) + 0))) := by
  match a, b, ha, hb with
  | [a0, a1, a2, a3], [b0, b1, b2, b3], _, _ => rfl
theorem dp_four (a b : List Int) (ha : a.length = 4) (hb : b.length = 4) : dp a b = a.getD 0 0 * b.getD 0 0 + (a.getD 1 0 * b.getD 1 0 + (a.getD 2 0 * b.getD 2 0 + (a.getD 3 0 * b.getD 3 0 + 0))) := by
  match a, b, ha, hb with
  | [a0, a1, a2, a3], [b0, b1, b2, b3], _, _ => rfl
theorem in5_get {l : List Int} (h : in5 l) (hl : l.length = 4) (j : Nat) (hj : j < 4) : -100000 < l.getD j 0 ∧ l.getD j 0 < 100000 := by
  have : l.getD j 0 = l[j] := by simp [List.getD, hl, hj]
  rw [this]; exact h _ (List.getElem_mem _)
theorem score1 {a b : List Int} (ha : small a) (hb : small b) (hl : a.length = 4) : scoreF 1 a b 0 = d2 a b := by
  have := (score_l2 a b 0 4 ha hb (by omega) (by omega) (by omega)).1
  rw [this]; omega
theorem score2 {a b : List Int} (ha : small a) (hb : small b) (hl : a.length = 4) : scoreF 2 a b 0 = 0 - dp a b := score_dot a b 0 4 0 ha hb (by omega) (by omega) (by omega) (by omega)
theorem d2_bound {a b : List Int} (ha : in5 a) (hb : in5 b) (la : a.length = 4) (lb : b.length = 4) : 0 ≤ d2 a b ∧ d2 a b ≤ 160000000000 := by
  rw [d2_four a b la lb]
  have k : ∀ j, j < 4 → 0 ≤ (a.getD j 0 - b.getD j 0) * (a.getD j 0 - b.getD j 0) ∧ (a.getD j 0 - b.getD j 0) * (a.getD j 0 - b.getD j 0) ≤ 200000 * 200000 := fun j hj => by
    have h1 := in5_get ha la j hj
    have h2 := in5_get hb lb j hj
    exact sq_le (by omega) (by omega)
  have := k 0 (by omega); have := k 1 (by omega); have := k 2 (by omega); have := k 3 (by omega)
  omega
theorem dp_bound {a b : List Int} (ha : in5 a) (hb : in5 b) (la : a.length = 4) (lb : b.length = 4) : -40000000000 ≤ dp a b ∧ dp a b ≤ 40000000000 := by
  rw [dp_four a b la lb]
  have k : ∀ j, j < 4 → -(100000 * 100000) ≤ a.getD j 0 * b.getD j 0 ∧ a.getD j 0 * b.getD j 0 ≤ 100000 * 100000 := fun j hj => by
    have h1 := in5_get ha la j hj
    have h2 := in5_get hb lb j hj
    exact mul_le' (by omega) (by omega) (by omega) (by omega)
  have := k 0 (by omega); have := k 1 (by omega); have := k 2 (by omega); have := k 3 (by omega)
  omega
theorem d2_shift {us vs ws xs ys : List Int} (lu : us.length = 4) (lv : vs.length = 4) (lx : xs.length = 4) (ly : ys.length = 4)
    (r : ∀ j, j < 4 → xs.getD j 0 = us.getD j 0 + ws.getD j 0 ∧ ys.getD j 0 = vs.getD j 0 + ws.getD j 0) : d2 xs ys = d2 us vs := by
  rw [d2_four xs ys lx ly, d2_four us vs lu lv]
  have k : ∀ j, j < 4 → xs.getD j 0 - ys.getD j 0 = us.getD j 0 - vs.getD j 0 := fun j hj => by have := r j hj; omega
  rw [k 0 (by omega), k 1 (by omega), k 2 (by omega), k 3 (by omega)]
theorem d2_scale {us vs xs ys : List Int} {f : Int} (lu : us.length = 4) (lv : vs.length = 4) (lx : xs.length = 4) (ly : ys.length = 4)
    (r : ∀ j, j < 4 → xs.getD j 0 = f * us.getD j 0 ∧ ys.getD j 0 = f * vs.getD j 0) : d2 xs ys = d2 us vs * f * f := by
  rw [d2_four xs ys lx ly, d2_four us vs lu lv]
  rw [(r 0 (by omega)).1, (r 1 (by omega)).1, (r 2 (by omega)).1, (r 3 (by omega)).1, (r 0 (by omega)).2, (r 1 (by omega)).2, (r 2 (by omega)).2, (r 3 (by omega)).2]
  grind
theorem dp_scale {us vs xs : List Int} {f : Int} (lu : us.length = 4) (lv : vs.length = 4) (lx : xs.length = 4) (r : ∀ j, j < 4 → xs.getD j 0 = f * us.getD j 0) : dp xs vs = f * dp us vs := by
  rw [dp_four xs vs lx lv, dp_four us vs lu lv, r 0 (by omega), r 1 (by omega), r 2 (by omega), r 3 (by omega)]
  grind
theorem d2_split {us vs : List Int} (lu : us.length = 4) (lv : vs.length = 4) : d2 us vs = d2 us (List.replicate 4 0) + d2 vs (List.replicate 4 0) + 2 * (0 - dp us vs) := by
  rw [d2_four us vs lu lv, d2_four us _ lu rfl, d2_four vs _ lv rfl, dp_four us vs lu lv]
  have z : ∀ j, j < 4 → (List.replicate 4 (0 : Int)).getD j 0 = 0 := fun j hj => by
    rcases (by omega : j = 0 ∨ j = 1 ∨ j = 2 ∨ j = 3) with rfl | rfl | rfl | rfl <;> rfl
  rw [z 0 (by omega), z 1 (by omega), z 2 (by omega), z 3 (by omega)]
  grind
theorem in5_zero : in5 (List.replicate 4 0) := fun z hz => by rw [List.mem_replicate] at hz; omega
theorem mul_f {x f : Int} {X : Int} (hf : -9 < f ∧ f < 9) (hx : -X ≤ x ∧ x ≤ X) : -(8 * X) ≤ f * x ∧ f * x ≤ 8 * X := by
  rcases (by omega : f = -8 ∨ f = -7 ∨ f = -6 ∨ f = -5 ∨ f = -4 ∨ f = -3 ∨ f = -2 ∨ f = -1 ∨ f = 0 ∨ f = 1 ∨ f = 2 ∨ f = 3 ∨ f = 4 ∨ f = 5 ∨ f = 6 ∨ f = 7 ∨ f = 8) with rfl | rfl | rfl | rfl | rfl | rfl | rfl | rfl | rfl | rfl | rfl | rfl | rfl | rfl | rfl | rfl | rfl <;> omega
end Go.Proofs.YtaegmplbkbaniaaGreatDoor
