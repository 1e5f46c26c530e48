/-
  THE ABSTRACT MACHINE, reasoned about by rewriting: regions that draw their order, their guards, new blocks, writers and calls. No condition.
-/
import Derived.Test.YtaegmplbkbaniaaGreatDoorHx
set_option linter.all false
namespace Go.Proofs.YtaegmplbkbaniaaGreatDoor
open Go
section
variable {E : Env} {t : Tr Value}
abbrev Rds := List (Nat × Ri × Tr Value × Value)
/-- A guarded operation. -/
def gD (b : Bool) (E : Env) (base : Nat) (d : Option Nat) (o : Ai) (i s bk : Nat) (k : Bool) (c ls : List Nat) (r : List Dl) (t : Tr Value) (H1 K1 : Hp) (sn : List Hp) (rd : Rds) (K : Tr Value → Hp → Prop) : Prop :=
  match b with
  | true => VD E base (⟨⟨d, o, none⟩, i, s, bk, k, c, ls⟩ :: r) ⟨t, H1, K1, sn, rd⟩ K
  | false => VD E base r ⟨putD t d undef, H1, K1, sn, rd⟩ K
@[congr] theorem gD_congr {b b' : Bool} {base : Nat} {d : Option Nat} {o : Ai} {i s bk : Nat} {k : Bool} {c ls : List Nat} {r : List Dl} {H1 K1 : Hp} {sn : List Hp} {rd : Rds} {K : Tr Value → Hp → Prop} (h : b = b') :
    gD b E base d o i s bk k c ls r t H1 K1 sn rd K = gD b' E base d o i s bk k c ls r t H1 K1 sn rd K := by rw [h]
variable (base : Nat) (d : Option Nat) (i s bk : Nat) (k : Bool) (c ls : List Nat) (r : List Dl) (H1 K1 : Hp) (sn : List Hp) (rd : Rds) (K : Tr Value → Hp → Prop)
theorem gD_true (o : Ai) : gD true E base d o i s bk k c ls r t H1 K1 sn rd K = VD E base (⟨⟨d, o, none⟩, i, s, bk, k, c, ls⟩ :: r) ⟨t, H1, K1, sn, rd⟩ K := rfl
theorem gD_false (o : Ai) : gD false E base d o i s bk k c ls r t H1 K1 sn rd K = VD E base r ⟨putD t d undef, H1, K1, sn, rd⟩ K := rfl
theorem D_if (o : Ai) (n : Nat) (b : Bool) : VD E base (⟨⟨d, o, some (n, b)⟩, i, s, bk, k, c, ls⟩ :: r) ⟨t, H1, K1, sn, rd⟩ K = gD (wants (some (n, b)) (rst ls t)) E base d o i s bk k c ls r t H1 K1 sn rd K := by
  show VD1 E base ⟨⟨d, o, some (n, b)⟩, i, s, bk, k, c, ls⟩ ⟨t, H1, K1, sn, rd⟩ _ = _
  unfold VD1
  cases hw : wants (some (n, b)) (rst ls t) with
  | false => simp only [hw]; rfl
  | true => simp only [hw]; rfl
/-- Behind a writer. -/
def ndc (E : Env) (base : Nat) (d : Option Nat) (c : List Nat) (r : List Dl) (t : Tr Value) (K1 : Hp) (sn : List Hp) (rd : Rds) (K : Tr Value → Hp → Prop) : Value → Hp → Prop := fun v H' =>
  (rd.all fun q => !(c.contains q.1) || alike E q.2.2.1 q.2.1 q.2.2.2 H') = true ∧ VD E base r ⟨putD t d v, H', H', K1 :: sn, rd⟩ K
theorem ndc_0 (v : Value) (H' : Hp) : ndc E base d c r t K1 sn [] K v H' = VD E base r ⟨putD t d v, H', H', K1 :: sn, []⟩ K := by
  unfold ndc; simp only [List.all_nil, true_and]
theorem D_e (o : Ei) : VD E base (⟨⟨d, .e o, none⟩, i, s, bk, k, c, ls⟩ :: r) ⟨t, H1, K1, sn, rd⟩ K = oP (effA E (rst ls t) H1 o) (ndc E base d c r t K1 sn rd K) := rfl
theorem D_call (f : Od) (l : List Od) : VD E base (⟨⟨d, .call f l, none⟩, i, s, bk, k, c, ls⟩ :: r) ⟨t, H1, K1, sn, rd⟩ K = oC E (calleeA (rst ls t) f l) H1 (ndc E base d c r t K1 sn rd K) := rfl
def oAd (o : Option (AObj × (Nat → Value))) (E : Env) (base : Nat) (d : Option Nat) (s : Nat) (r : List Dl) (t : Tr Value) (H1 K1 : Hp) (sn : List Hp) (rd : Rds) (K : Tr Value → Hp → Prop) : Prop := match o with
  | some q => (((K1 :: sn).all fun S => (S.get (base + s)).isNone) && q.1.rw) = true ∧ VD E base r ⟨putD t d (q.2 (base + s)), H1.put (base + s) (some q.1), K1, sn, rd⟩ K
  | none => False
@[congr] theorem oAd_congr {o o' : Option (AObj × (Nat → Value))} {base : Nat} {d : Option Nat} {s : Nat} {r : List Dl} {H1 K1 : Hp} {sn : List Hp} {rd : Rds} {K : Tr Value → Hp → Prop} (h : o = o') : oAd o E base d s r t H1 K1 sn rd K = oAd o' E base d s r t H1 K1 sn rd K := by rw [h]
theorem D_a (o : Li) : VD E base (⟨⟨d, .a o, none⟩, i, s, bk, k, c, ls⟩ :: r) ⟨t, H1, K1, sn, rd⟩ K = oAd (allocA E (rst ls t) o) E base d s r t H1 K1 sn rd K := rfl
theorem oAd_row (cl : Cl) (sp : Nat) (f : Nat → Value) (h : ((K1 :: sn).all fun S => (S.get (base + s)).isNone) = true) :
    oAd (some (.row cl sp true, f)) E base d s r t H1 K1 sn rd K = VD E base r ⟨putD t d (f (base + s)), H1.put (base + s) (some (.row cl sp true)), K1, sn, rd⟩ K := by
  show (_ ∧ _) = _
  rw [h]; simp [AObj.rw]
end
end Go.Proofs.YtaegmplbkbaniaaGreatDoor
