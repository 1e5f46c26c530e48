/-
  THE ABSTRACT MACHINE: slices of whole numbers as lists. No condition.
-/
import Derived.Test.YtaegmplbkbaniaaGreatDoorVc
import Derived.Test.YtaegmplbkbaniaaGreatDoorExtC
import Derived.Laws.BitsLemmas
set_option linter.all false
namespace Go.Proofs.YtaegmplbkbaniaaGreatDoor
open Go
/-- Cells that hold numbers of a kind. -/
def intsK (k : IntKind) : List Value → Option (List Int)
  | [] => some []
  | .int j n :: r => if j = k ∧ k.wrap n = n then (match intsK k r with | some l => some (n :: l) | none => none) else none
  | _ :: _ => none
theorem intsK_spec {k : IntKind} : ∀ {l : List Value} {zs : List Int}, intsK k l = some zs → l = zs.map (Value.int k) ∧ ∀ z ∈ zs, k.wrap z = z
  | [], zs, h => by simp only [intsK] at h; cases h; exact ⟨rfl, fun z hz => by cases hz⟩
  | v :: r, zs, h => by
    unfold intsK at h
    split at h
    · rename_i he; cases he
    · rename_i j n r' he
      cases he
      split at h
      · rename_i hc
        obtain ⟨rfl, hw⟩ := hc
        split at h
        · rename_i l hl
          cases h
          obtain ⟨h1, h2⟩ := intsK_spec hl
          exact ⟨by rw [h1]; rfl, fun z hz => by
            rcases List.mem_cons.1 hz with rfl | hz
            · exact hw
            · exact h2 z hz⟩
        · cases h
      · cases h
    · cases h
theorem intsK_mk {k : IntKind} : ∀ {zs : List Int}, (∀ z ∈ zs, k.wrap z = z) → intsK k (zs.map (Value.int k)) = some zs
  | [], _ => rfl
  | z :: zs, h => by
    simp only [List.map_cons, intsK]
    rw [if_pos ⟨trivial, h z (List.mem_cons_self ..)⟩, intsK_mk (fun x hx => h x (List.mem_cons_of_mem _ hx))]
/-- A slice of numbers, read. -/
def rdI (k : IntKind) (H : Hp) (v : Value) : Option (List Int) := match v with
  | .slice none 0 0 => some []
  | .slice (some ⟨0, 0, none⟩) 0 0 => some []
  | .slice (some ⟨b, o, some s⟩) n cap => match (Nat.beq s 2 || Nat.beq s 3) && Nat.ble n cap, H.rd b o n with
    | true, some l => intsK k l
    | _, _ => none
  | _ => none
structure IsSl (k : IntKind) (H : Hp) (v : Value) (zs : List Int) : Prop where
  is : ((v = .slice none 0 0 ∨ v = .slice (some ⟨0, 0, none⟩) 0 0) ∧ zs = []) ∨ ∃ b o s cap, v = .slice (some ⟨b, o, some s⟩) zs.length cap ∧ (s = 2 ∨ s = 3) ∧ zs.length ≤ cap ∧ H.rd b o zs.length = some (zs.map (Value.int k))
  fit : ∀ z ∈ zs, k.wrap z = z
theorem Hp.rd_len {H : Hp} {b o n : Nat} {l : List Value} (h : H.rd b o n = some l) : l.length = n := by
  unfold Hp.rd at h
  split at h
  · exact (Cl.rd_spec h).1
  · cases h
theorem rdI_is {k : IntKind} {H : Hp} {v : Value} {zs : List Int} (h : rdI k H v = some zs) : IsSl k H v zs := by
  unfold rdI at h
  split at h
  · cases h; exact ⟨.inl ⟨.inl rfl, rfl⟩, fun z hz => by cases hz⟩
  · cases h; exact ⟨.inl ⟨.inr rfl, rfl⟩, fun z hz => by cases hz⟩
  · rename_i b o s n cap
    split at h
    · rename_i l hs hr
      obtain ⟨h1, h2⟩ := intsK_spec h
      have hn : zs.length = n := by rw [← Hp.rd_len hr, h1]; simp
      rw [Bool.and_eq_true] at hs
      refine ⟨.inr ⟨b, o, s, cap, by rw [hn], by simpa using hs.1, by rw [hn]; exact Nat.le_of_ble_eq_true hs.2, by rw [hn, hr, h1]⟩, h2⟩
    · cases h
  · cases h
theorem IsSl.rd {k : IntKind} {H : Hp} {v : Value} {zs : List Int} (h : IsSl k H v zs) : rdI k H v = some zs := by
  rcases h.is with ⟨rfl | rfl, rfl⟩ | ⟨b, o, s, cap, rfl, hs, hc, hr⟩
  · rfl
  · rfl
  · unfold rdI
    have : ((Nat.beq s 2 || Nat.beq s 3) && Nat.ble zs.length cap) = true := by
      rw [Bool.and_eq_true]; exact ⟨by simpa using hs, Nat.ble_eq_true_of_le hc⟩
    simp only [this, hr]
    exact intsK_mk h.fit
/-- The address of an element that takes one cell. -/
def elA (v : Value) (i : Nat) : Value := match v with
  | .slice (some ⟨b, o, _⟩) _ _ => .pointer (some ⟨b, o + i, none⟩)
  | _ => undef
def loadV (E : Env) (H : Hp) (T : TypeId) (v : Value) : Option Value := match E.ty T, v with
  | some ti, .pointer (some ⟨b, o, none⟩) => match H.rd b o ti.size with
    | some l => asV ti l
    | none => none
  | _, _ => none
section
variable {E : Env} {t : Tr Value} {H : Hp}
theorem R_load (T : TypeId) (x : Od) : readA E t H (.load T x) = loadV E H T (x.ev t) := rfl
variable {k : IntKind} {v : Value} {zs : List Int}
theorem lenV_sl {T e by' : Nat} {z : Option (List Value)} {c : Bool} (hT : E.ty T = some ⟨.slc e, 1, by', z, c⟩) (h : IsSl k H v zs) : lenV E T v = some (.int .i64 (zs.length : Nat)) := by
  rcases h.is with ⟨rfl | rfl, rfl⟩ | ⟨b, o, s, cap, rfl, _, _, _⟩ <;> (unfold lenV; simp only [hT]) <;> rfl
theorem iadr_sl {T e b1 b2 : Nat} {z z2 : Option (List Value)} {c c2 : Bool} {ke : IntKind} (hT : E.ty T = some ⟨.slc e, 1, b1, z, c⟩) (he : E.ty e = some ⟨.int ke, 1, b2, z2, c2⟩) (h : IsSl k H v zs) {j : IntKind} {i : Int} (h0 : 0 ≤ i) (h1 : i < zs.length) :
    iadrA E T v (.int j i) = some (elA v i.toNat) := by
  rcases h.is with ⟨_, rfl⟩ | ⟨b, o, s, cap, rfl, _, _, _⟩
  · simp at h1; omega
  · unfold iadrA elA
    simp only [hT, he]
    rw [if_pos ⟨h0, h1⟩]; simp
theorem load_sl {T b2 : Nat} {z2 : Option (List Value)} {c2 : Bool} {ke : IntKind} (he : E.ty T = some ⟨.int ke, 1, b2, z2, c2⟩) (h : IsSl k H v zs) {i : Nat} (h1 : i < zs.length) :
    loadV E H T (elA v i) = some (.int k (zs.getD i 0)) := by
  rcases h.is with ⟨_, rfl⟩ | ⟨b, o, s, cap, rfl, _, _, hr⟩
  · simp at h1
  · unfold loadV elA
    simp only [he]
    have : H.rd b (o + i) 1 = some [.int k (zs.getD i 0)] := by
      unfold Hp.rd at hr ⊢
      split at hr
      · rename_i c0 s0 rw0 hg
        obtain ⟨g1, g2⟩ := Cl.rd_spec hr
        obtain ⟨g3, g4⟩ := g2 i h1
        simp only [List.getElem?_map, List.getElem?_eq_getElem h1, Option.map_some] at g3
        have hgd : zs.getD i 0 = zs[i] := by simp [List.getD, h1]
        rw [hgd]
        cases c0 with
        | lst l =>
          simp only [Cl.at] at g3
          simp only [Cl.len] at g4
          have e1 : (l.drop (o + i)).take 1 = [Value.int k zs[i]] := by
            apply List.ext_getElem?
            intro j
            rw [List.getElem?_take]
            cases j with
            | zero => simp only [Nat.zero_lt_one, if_true, List.getElem?_drop, Nat.add_zero, List.getElem?_cons_zero]; rw [← g3]
            | succ j => simp
          simp only [Cl.rd, e1]; rfl
        | big n z m =>
          simp only [Cl.at] at g3
          simp only [Cl.len] at g4
          have : Nat.ble (o + i + 1) n = true := Nat.ble_eq_true_of_le (by omega)
          simp only [Cl.rd, this]
          rw [show List.range 1 = [0] from rfl]
          simp only [List.map_cons, List.map_nil, Nat.add_zero]
          cases hm : m.get (o + i) with
          | none => rw [hm] at g3; simp only [g4, if_true] at g3; rw [← Option.some.inj g3]
          | some u => rw [hm] at g3; simp only [g4, if_true] at g3; rw [← Option.some.inj g3]
      · cases hr
    rw [this]; rfl
end
theorem wrap64_id {z : Int} (h1 : -9223372036854775808 ≤ z) (h2 : z < 9223372036854775808) : IntKind.i64.wrap z = z := by rw [IntKind.wrap_i64]; omega
theorem wrap32_id {z : Int} (h1 : -2147483648 ≤ z) (h2 : z < 2147483648) : IntKind.i32.wrap z = z := by rw [IntKind.wrap_i32]; omega
theorem wrap32_le {z : Int} (h : IntKind.i32.wrap z = z) : -2147483648 ≤ z ∧ z < 2147483648 := by rw [IntKind.wrap_i32] at h; omega
theorem wrap64_le {z : Int} (h : IntKind.i64.wrap z = z) : -9223372036854775808 ≤ z ∧ z < 9223372036854775808 := by rw [IntKind.wrap_i64] at h; omega
set_option maxRecDepth 100000
theorem envT_ty (x : FuncId → Option GF) : (envT x).ty = tyOf Tryz.prog := rfl
theorem wrapSucc {i : Nat} (h : i < 9223372036854775807) : IntKind.i64.wrap ((i : Int) + 1) = ((i + 1 : Nat) : Int) := by rw [wrap64_id (by omega) (by omega)]; rfl
theorem IsSl.at {k : IntKind} {H : Hp} {v : Value} {zs : List Int} (h : IsSl k H v zs) {i : Nat} (hi : i < zs.length) : k.wrap (zs.getD i 0) = zs.getD i 0 := by
  have : zs.getD i 0 = zs[i] := by simp [List.getD, hi]
  rw [this]; exact h.fit _ (List.getElem_mem hi)
theorem wrap64_of32 {z : Int} (h : IntKind.i32.wrap z = z) : IntKind.i64.wrap z = z := by
  have := wrap32_le h
  exact wrap64_id (by omega) (by omega)
theorem envT_ext (x : FuncId → Option GF) : (envT x).ext = x := rfl
theorem envT_prog (x : FuncId → Option GF) : (envT x).prog = progOf Tryz.prog := rfl
end Go.Proofs.YtaegmplbkbaniaaGreatDoor
