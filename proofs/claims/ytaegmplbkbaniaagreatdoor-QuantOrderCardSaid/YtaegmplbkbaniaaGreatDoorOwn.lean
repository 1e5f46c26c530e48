/-
  THE ABSTRACT MACHINE, reasoned about: rows of one's own, read and written, by rewriting. No condition.
-/
import Derived.Test.YtaegmplbkbaniaaGreatDoorVdd
set_option linter.all false
namespace Go.Proofs.YtaegmplbkbaniaaGreatDoor
open Go
def ldR (o : Option AObj) (i : Nat) : Option Value := match o with
  | some (.row c _ _) => c.at i
  | _ => none
def stR (o : Option AObj) (H : Hp) (b i : Nat) (x : Value) : Option (Value × Hp) := match o with
  | some (.row (.lst l) 0 true) => if i < l.length then some (undef, H.put b (some (.row (.lst (l.set i x)) 0 true))) else none
  | _ => none
section
variable {E : Env} {t : Tr Value} {H : Hp}
theorem Cl.rd_one (c : Cl) (i : Nat) : c.rd i 1 = (c.at i).map fun v => [v] := by
  cases c with
  | lst l =>
    simp only [Cl.rd, Cl.at]
    cases h : l[i]? with
    | none =>
      have : l.length ≤ i := by simpa using h
      rw [List.drop_eq_nil_of_le this]; rfl
    | some v =>
      obtain ⟨hi, hv⟩ := List.getElem?_eq_some_iff.1 h
      have e : (l.drop i).take 1 = [v] := by rw [List.drop_eq_getElem_cons hi, hv]; rfl
      rw [e]; rfl
  | big n z m =>
    simp only [Cl.rd, Cl.at]
    by_cases h : i < n
    · rw [show Nat.ble (i + 1) n = true from Nat.ble_eq_true_of_le (by omega)]
      rw [show List.range 1 = [0] from rfl]
      simp only [List.map_cons, List.map_nil, Nat.add_zero, if_pos h]
      cases m.get i <;> rfl
    · have : Nat.ble (i + 1) n = false := by
        cases hb : Nat.ble (i + 1) n with
        | false => rfl
        | true => have := Nat.le_of_ble_eq_true hb; omega
      rw [this]
      simp only [if_neg h]
      cases m.get i <;> rfl
theorem loadV_ptr {T b2 : Nat} {z2 : Option (List Value)} {c2 : Bool} {k : DK} (hk : k.agg = false) (he : E.ty T = some ⟨k, 1, b2, z2, c2⟩) (b i : Nat) : loadV E H T (.pointer (some ⟨b, i, none⟩)) = ldR (H.get b) i := by
  unfold loadV ldR
  simp only [he]
  unfold Hp.rd
  cases H.get b with
  | none => rfl
  | some o =>
    cases o with
    | map es => rfl
    | row c s rw =>
      simp only [Cl.rd_one]
      cases c.at i with
      | none => rfl
      | some v => simp only [Option.map_some, asV, hk]
theorem loadV_own {T b2 : Nat} {z2 : Option (List Value)} {c2 : Bool} {k : DK} (hk : k.agg = false) (he : E.ty T = some ⟨k, 1, b2, z2, c2⟩) (b : Nat) (s : Option Nat) (n cap i : Nat) : loadV E H T (elA (.slice (some ⟨b, 0, s⟩) n cap) i) = ldR (H.get b) i := by
  unfold elA
  simp only [Nat.zero_add]
  exact loadV_ptr hk he b i
theorem storeV_ptr {T b2 : Nat} {z2 : Option (List Value)} {c2 : Bool} {k : DK} (he : E.ty T = some ⟨k, 1, b2, z2, c2⟩) (b i : Nat) (x : Value) (hx : x.cells = #[x]) (h1 : one x = true) (l : List Value) (hg : H.get b = some (.row (.lst l) 0 true)) (hi : i < l.length) :
    storeV E H T (.pointer (some ⟨b, i, none⟩)) x = some (undef, H.put b (some (.row (.lst (l.set i x)) 0 true))) := by
  unfold storeV
  simp only [he, hx]
  rw [show Nat.beq (#[x] : Array Value).size 1 = true from rfl]
  simp only [Hp.wr_set hg hi h1]
theorem storeV_row {T b2 : Nat} {z2 : Option (List Value)} {c2 : Bool} {k : DK} (he : E.ty T = some ⟨k, 1, b2, z2, c2⟩) (b : Nat) (s : Option Nat) (n cap i : Nat) (kk : IntKind) (x : Int) {l : List Value} (hg : H.get b = some (.row (.lst l) 0 true)) (hi : i < l.length) :
    storeV E H T (elA (.slice (some ⟨b, 0, s⟩) n cap) i) (.int kk x) = some (undef, H.put b (some (.row (.lst (l.set i (.int kk x))) 0 true))) := by
  unfold elA
  simp only [Nat.zero_add]
  exact storeV_ptr he b i _ rfl rfl l hg hi
/-- A store, by what lies there. -/
theorem storeV_stR {T b2 : Nat} {z2 : Option (List Value)} {c2 : Bool} {k : DK} (he : E.ty T = some ⟨k, 1, b2, z2, c2⟩) (b : Nat) (s : Option Nat) (n cap i : Nat) (kk : IntKind) (x : Int) {l : List Value} (hl : ∃ l, H.get b = some (.row (.lst l) 0 true) ∧ i < l.length) :
    storeV E H T (elA (.slice (some ⟨b, 0, s⟩) n cap) i) (.int kk x) = stR (H.get b) H b i (.int kk x) := by
  obtain ⟨l, h1, h2⟩ := hl
  rw [storeV_row he b s n cap i kk x h1 h2, h1]
  simp only [stR, if_pos h2]
theorem iadr_own {T e b1 b2 : Nat} {z z2 : Option (List Value)} {c c2 : Bool} {k : DK} (hT : E.ty T = some ⟨.slc e, 1, b1, z, c⟩) (he : E.ty e = some ⟨k, 1, b2, z2, c2⟩) (b s n cap : Nat) (j : IntKind) {i : Int} (h0 : 0 ≤ i) (h1 : i < n) :
    iadrA E T (.slice (some ⟨b, 0, some s⟩) n cap) (.int j i) = some (elA (.slice (some ⟨b, 0, some s⟩) n cap) i.toNat) := by
  unfold iadrA elA
  simp only [hT, he]
  rw [if_pos ⟨h0, h1⟩]; simp
theorem lenV_own {T e b1 : Nat} {z : Option (List Value)} {c : Bool} (hT : E.ty T = some ⟨.slc e, 1, b1, z, c⟩) (a : Option Addr) (n cap : Nat) : lenV E T (.slice a n cap) = some (.int .i64 n) := by
  unfold lenV; simp only [hT]
theorem ldR_lst (l : List Value) (s : Nat) (rw : Bool) (i : Nat) : ldR (some (.row (.lst l) s rw)) i = l[i]? := rfl
theorem ldR_big (n : Nat) (z : Value) (m : Tr Value) (s : Nat) (rw : Bool) (i : Nat) : ldR (some (.row (.big n z m) s rw)) i = (Cl.big n z m).at i := rfl
end
end Go.Proofs.YtaegmplbkbaniaaGreatDoor
