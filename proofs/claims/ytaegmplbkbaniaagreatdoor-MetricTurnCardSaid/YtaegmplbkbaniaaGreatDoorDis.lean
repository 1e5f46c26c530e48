/-
  Squares of distances and products, plainly: what scores come to where numbers are small. No condition but the bounds told.
-/
import Derived.Test.YtaegmplbkbaniaaGreatDoorMet
set_option linter.all false
namespace Go.Proofs.YtaegmplbkbaniaaGreatDoor
open Go
set_option maxRecDepth 10000
def d2 : List Int → List Int → Int
  | x :: a, y :: b => (x - y) * (x - y) + d2 a b
  | _, _ => 0
def dp : List Int → List Int → Int
  | x :: a, y :: b => x * y + dp a b
  | _, _ => 0
theorem sq_le {d D : Int} (h1 : -D ≤ d) (h2 : d ≤ D) : 0 ≤ d * d ∧ d * d ≤ D * D := by
  have : 0 ≤ (D - d) * (D + d) := Int.mul_nonneg (by omega) (by omega)
  refine ⟨?_, by grind⟩
  rcases Int.le_total 0 d with h | h
  · exact Int.mul_nonneg h h
  · have := Int.mul_nonneg (a := -d) (b := -d) (by omega) (by omega)
    grind
theorem mul_le' {x y X : Int} (h1 : -X ≤ x) (h2 : x ≤ X) (h3 : -X ≤ y) (h4 : y ≤ X) : -(X * X) ≤ x * y ∧ x * y ≤ X * X := by
  have a := sq_le (d := x + y) (D := 2 * X) (by omega) (by omega)
  have b := sq_le (d := x - y) (D := 2 * X) (by omega) (by omega)
  have c : 4 * (x * y) = (x + y) * (x + y) - (x - y) * (x - y) := by grind
  have e : (2 * X) * (2 * X) = 4 * (X * X) := by grind
  omega
def small (l : List Int) : Prop := ∀ x ∈ l, -2097152 ≤ x ∧ x ≤ 2097152
theorem score_l2 : ∀ (a b : List Int) (s : Int) (n : Nat), small a → small b → a.length ≤ n → 0 ≤ s → s + n * 17592186044416 < 9223372036854775808 → scoreF 1 a b s = s + d2 a b ∧ 0 ≤ d2 a b
  | [], b, s, n, _, _, _, _, _ => by simp [scoreF, d2]
  | x :: a, [], s, n, _, _, _, _, _ => by simp [scoreF, d2]
  | x :: a, y :: b, s, n, ha, hb, hn, hs, hbd => by
    have hx := ha x (List.mem_cons_self ..)
    have hy := hb y (List.mem_cons_self ..)
    have hq := sq_le (d := x - y) (D := 4194304) (by omega) (by omega)
    obtain ⟨n, rfl⟩ : ∃ m, n = m + 1 := ⟨n - 1, by simp at hn; omega⟩
    have hn' : a.length ≤ n := by simpa using hn
    have e : ((n + 1 : Nat) : Int) * 17592186044416 = n * 17592186044416 + 17592186044416 := by push_cast; grind
    rw [e] at hbd
    have hpos : 0 ≤ (n : Int) * 17592186044416 := Int.mul_nonneg (Int.natCast_nonneg n) (by decide)
    have e1 : w64 (x - y) = x - y := wrap64_id (by omega) (by omega)
    have e2 : w64 ((x - y) * (x - y)) = (x - y) * (x - y) := wrap64_id (by omega) (by omega)
    have e3 : w64 (s + (x - y) * (x - y)) = s + (x - y) * (x - y) := wrap64_id (by omega) (by omega)
    have ih := score_l2 a b (s + (x - y) * (x - y)) n (fun z hz => ha z (List.mem_cons_of_mem _ hz)) (fun z hz => hb z (List.mem_cons_of_mem _ hz)) hn' (by omega) (by omega)
    simp only [scoreF, scoreStep, if_true, e1, e2, e3, d2]
    rw [ih.1]
    exact ⟨by omega, by omega⟩
theorem score_dot : ∀ (a b : List Int) (s : Int) (n : Nat) (m : Int), small a → small b → a.length ≤ n → -m ≤ s → s ≤ m → m + n * 4398046511104 < 9223372036854775808 → scoreF 2 a b s = s - dp a b
  | [], b, s, n, m, _, _, _, _, _, _ => by simp [scoreF, dp]
  | x :: a, [], s, n, m, _, _, _, _, _, _ => by simp [scoreF, dp]
  | x :: a, y :: b, s, n, m, ha, hb, hn, h1, h2, hbd => by
    have hx := ha x (List.mem_cons_self ..)
    have hy := hb y (List.mem_cons_self ..)
    have hq := mul_le' (x := x) (y := y) (X := 2097152) (by omega) (by omega) (by omega) (by omega)
    obtain ⟨n, rfl⟩ : ∃ k, n = k + 1 := ⟨n - 1, by simp at hn; omega⟩
    have hn' : a.length ≤ n := by simpa using hn
    have e : ((n + 1 : Nat) : Int) * 4398046511104 = n * 4398046511104 + 4398046511104 := by push_cast; grind
    rw [e] at hbd
    have hpos : 0 ≤ (n : Int) * 4398046511104 := Int.mul_nonneg (Int.natCast_nonneg n) (by decide)
    have e2 : w64 (x * y) = x * y := wrap64_id (by omega) (by omega)
    have e3 : w64 (s - x * y) = s - x * y := wrap64_id (by omega) (by omega)
    have ih := score_dot a b (s - x * y) n (m + 4398046511104) (fun z hz => ha z (List.mem_cons_of_mem _ hz)) (fun z hz => hb z (List.mem_cons_of_mem _ hz)) hn' (by omega) (by omega) (by omega)
    have e4 : scoreF 2 (x :: a) (y :: b) s = scoreF 2 a b (scoreStep 2 x y s) := rfl
    have e5 : scoreStep 2 x y s = w64 (s - w64 (x * y)) := rfl
    rw [e4, e5, e2, e3, ih]
    have e6 : dp (x :: a) (y :: b) = x * y + dp a b := rfl
    rw [e6]; omega
theorem d2_comm : ∀ a b : List Int, d2 a b = d2 b a
  | [], [] => rfl
  | [], _ :: _ => rfl
  | _ :: _, [] => rfl
  | x :: a, y :: b => by simp only [d2]; rw [d2_comm a b]; grind
end Go.Proofs.YtaegmplbkbaniaaGreatDoor
