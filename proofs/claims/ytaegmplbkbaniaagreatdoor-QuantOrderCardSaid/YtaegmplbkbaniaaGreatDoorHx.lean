/-
  THE ABSTRACT MACHINE, reasoned about: new rows, rows written, loops that are unrolled. No condition.
-/
import Derived.Test.YtaegmplbkbaniaaGreatDoorVcb
set_option linter.all false
namespace Go.Proofs.YtaegmplbkbaniaaGreatDoor
open Go
set_option maxRecDepth 100000
set_option maxRecDepth 2000
theorem Tr.putK_put {α : Type} (f : Nat) : ∀ (t : Tr α) (i : Nat) (x y : Option α), i < f → Tr.putK f (Tr.putK f t i x id) i y id = Tr.putK f t i y id := by
  induction f with
  | zero => intro t i x y h; omega
  | succ f ih =>
    intro t i x y h
    cases i with
    | zero => cases t <;> rfl
    | succ i =>
      cases t with
      | nil =>
        rw [Tr.putF_nil, Tr.putF_nil]
        by_cases hp : i % 2 = 0
        · rw [if_pos hp, if_pos hp, Tr.putF_node, if_pos hp, ih _ _ _ _ (by omega)]
        · rw [if_neg hp, if_neg hp, Tr.putF_node, if_neg hp, ih _ _ _ _ (by omega)]
      | node v l r =>
        rw [Tr.putF_node, Tr.putF_node]
        by_cases hp : i % 2 = 0
        · rw [if_pos hp, if_pos hp, Tr.putF_node, if_pos hp, ih _ _ _ _ (by omega)]
        · rw [if_neg hp, if_neg hp, Tr.putF_node, if_neg hp, ih _ _ _ _ (by omega)]
theorem Hp.alloc_put (H : Hp) (o o' : AObj) : (H.alloc o).put H.n (some o') = H.alloc o' := by
  show (⟨H.n + 1, ((H.m.put H.n (some o)).put H.n (some o'))⟩ : Hp) = ⟨H.n + 1, H.m.put H.n (some o')⟩
  unfold Tr.put
  rw [Tr.putK_put _ _ _ _ _ (by omega)]
theorem Hp.put_put (H : Hp) (i : Nat) (o o' : Option AObj) : (H.put i o).put i o' = H.put i o' := by
  show (⟨H.n, ((H.m.put i o).put i o')⟩ : Hp) = ⟨H.n, H.m.put i o'⟩
  unfold Tr.put
  rw [Tr.putK_put _ _ _ _ _ (by omega)]
theorem Hp.get_alloc_same (H : Hp) (o : AObj) : (H.alloc o).get H.n = some o := by rw [Hp.get_alloc, if_pos rfl]
theorem Hp.alloc_n (H : Hp) (o : AObj) : (H.alloc o).n = H.n + 1 := rfl
theorem Hp.put_n (H : Hp) (i : Nat) (o : Option AObj) : (H.put i o).n = H.n := rfl
theorem spl_set : ∀ (l : List Value) (o : Nat) (v : Value), o < l.length → spl 0 l o [v] = some (l.set o v, 0)
  | [], o, v, h => by simp at h
  | c :: cs, 0, v, h => by simp only [spl, ovl]; cases cs <;> rfl
  | c :: cs, o + 1, v, h => by
    simp only [spl, spl_set cs o v (by simpa using h)]; rfl
/-- One cell of a row of one's own, written. -/
theorem Hp.wr_set {H : Hp} {b o : Nat} {l : List Value} {v : Value} (hg : H.get b = some (.row (.lst l) 0 true)) (ho : o < l.length) (h1 : one v = true) : H.wr b o [v] = some (H.put b (some (.row (.lst (l.set o v)) 0 true))) := by
  unfold Hp.wr
  have : [v].all one = true := by simp [h1]
  simp only [hg, this, Cl.wr, spl_set l o v ho]
theorem Hp.rd_lst {H : Hp} {b o n : Nat} {l : List Value} {s : Nat} {rw : Bool} (hg : H.get b = some (.row (.lst l) s rw)) (h : o + n ≤ l.length) : H.rd b o n = some ((l.drop o).take n) := by
  unfold Hp.rd
  simp only [hg, Cl.rd]
  have : Nat.beq ((l.drop o).take n).length n = true := by
    rw [List.length_take, List.length_drop, Nat.min_eq_left (by omega)]; exact Nat.beq_refl n
  rw [this]
def Wf (H : Hp) : Prop := ∀ id, H.n ≤ id → H.get id = none
theorem Wf.alloc {H : Hp} (h : Wf H) (o : AObj) : Wf (H.alloc o) := fun id hi => by
  rw [Hp.alloc_n] at hi
  rw [Hp.get_alloc, if_neg (by omega)]; exact h id (by omega)
theorem Wf.lt {H : Hp} (h : Wf H) {id : Nat} {o : AObj} (ho : H.get id = some o) : id < H.n := by
  rcases Nat.lt_or_ge id H.n with h2 | h2
  · exact h2
  · rw [h id h2] at ho; cases ho
theorem Hp.rd_get {H : Hp} {b o n : Nat} {l : List Value} (h : H.rd b o n = some l) : ∃ c s rw, H.get b = some (.row c s rw) := by
  unfold Hp.rd at h
  split at h
  · rename_i c s rw hg; exact ⟨c, s, rw, hg⟩
  · cases h
theorem Hp.rd_eq {H H' : Hp} {b : Nat} (h : H'.get b = H.get b) (o n : Nat) : H'.rd b o n = H.rd b o n := by unfold Hp.rd; rw [h]
/-- A slice reads as it did. -/
theorem IsSl.grow {k : IntKind} {H H' : Hp} {v : Value} {zs : List Int} (h : IsSl k H v zs) (w : Wf H) (hg : ∀ id, id < H.n → H'.get id = H.get id) : IsSl k H' v zs := by
  refine ⟨?_, h.fit⟩
  rcases h.is with h1 | ⟨b, o, s, cap, h1, h2, h3⟩
  · exact .inl h1
  · obtain ⟨c, s', rw, hgt⟩ := Hp.rd_get h3.2
    exact .inr ⟨b, o, s, cap, h1, h2, h3.1, by rw [Hp.rd_eq (hg b (w.lt hgt))]; exact h3.2⟩
theorem IsSl.alloc {k : IntKind} {H : Hp} {v : Value} {zs : List Int} (h : IsSl k H v zs) (w : Wf H) (o : AObj) : IsSl k (H.alloc o) v zs :=
  h.grow w fun id hi => by rw [Hp.get_alloc, if_neg (by omega)]
/-- A slice of one's own. -/
theorem IsSl.own {k : IntKind} {H : Hp} {b s cap : Nat} {zs : List Int} {sp : Nat} {rw : Bool} (hg : H.get b = some (.row (.lst (zs.map (Value.int k))) sp rw)) (hs : s = 2 ∨ s = 3) (hc : zs.length ≤ cap) (hf : ∀ z ∈ zs, k.wrap z = z) :
    IsSl k H (.slice (some ⟨b, 0, some s⟩) zs.length cap) zs :=
  ⟨.inr ⟨b, 0, s, cap, rfl, hs, hc, by rw [Hp.rd_lst hg (by simp)]; simp [List.take_of_length_le]⟩, hf⟩
theorem IsSl.nil' (k : IntKind) (H : Hp) : IsSl k H (.slice none 0 0) [] := ⟨.inl ⟨.inl rfl, rfl⟩, fun z hz => by cases hz⟩
section
variable {E : Env} {t : Tr Value} {H : Hp}
def mkV (E : Env) (T : TypeId) (l c : Value) : Option (AObj × (Nat → Value)) := match E.ty T, l, c with
    | some { k := .slc e, .. }, .int _ ln, .int _ cn => match E.ty e with
      | some te => match te.zero with
        | some z => if 0 ≤ ln ∧ ln ≤ cn ∧ cn ≤ 2 ^ 20 ∧ te.bytes ≤ 2 ^ 20 ∧ z.length = te.size then
            some (.row (mkRow z cn.toNat) 0 true, fun i => .slice (some ⟨i, 0, some (2 * te.size + 1)⟩) ln.toNat cn.toNat) else none
        | none => none
      | none => none
    | _, _, _ => none
theorem A_mksl (T : TypeId) (l c : Od) : allocA E t (.mksl T l c) = mkV E T (l.ev t) (c.ev t) := rfl
theorem rep_one (v : Value) : ∀ n, rep [v] n = List.replicate n v
  | 0 => rfl
  | n + 1 => by rw [rep, rep_one v n]; rfl
/-- make([]T, n) of whole numbers. -/
theorem mkV_int {T e b1 b2 : Nat} {z : Option (List Value)} {c c2 : Bool} {ke : IntKind} (hT : E.ty T = some ⟨.slc e, 1, b1, z, c⟩) (he : E.ty e = some ⟨.int ke, 1, b2, some [.int ke 0], c2⟩) (hb : b2 ≤ 2 ^ 20) {k1 k2 : IntKind} {n : Int} (h0 : 0 ≤ n) (h1 : n ≤ 512) :
    mkV E T (.int k1 n) (.int k2 n) = some (.row (.lst ((List.replicate n.toNat 0).map (Value.int ke))) 0 true, fun i => .slice (some ⟨i, 0, some 3⟩) n.toNat n.toNat) := by
  unfold mkV
  simp only [hT, he]
  rw [if_pos ⟨h0, Int.le_refl _, by omega, hb, rfl⟩]
  have : mkRow [Value.int ke 0] n.toNat = .lst ((List.replicate n.toNat 0).map (Value.int ke)) := by
    unfold mkRow
    have h2 : Nat.ble (n.toNat * [Value.int ke 0].length) 512 = true := Nat.ble_eq_true_of_le (by simp; omega)
    rw [h2]
    simp only [rep_one, List.map_replicate]
  rw [this]
def storeV (E : Env) (H : Hp) (T : TypeId) (a x : Value) : Option (Value × Hp) := match E.ty T, a with
    | some ti, .pointer (some ⟨b, o, none⟩) => match Nat.beq x.cells.size ti.size with
      | true => match H.wr b o x.cells.toList with
        | some H' => some (undef, H')
        | none => none
      | false => none
    | _, _ => none
theorem E_store (T : TypeId) (a x : Od) : effA E t H (.store T a x) = storeV E H T (a.ev t) (x.ev t) := rfl
/-- An element of a slice of one's own, written. -/
theorem storeV_own {T b2 : Nat} {z2 : Option (List Value)} {c2 : Bool} {ke : IntKind} (he : E.ty T = some ⟨.int ke, 1, b2, z2, c2⟩) {b o : Nat} {s : Option Nat} {n cap : Nat} {zs : List Int} {k : IntKind} (hg : H.get b = some (.row (.lst (zs.map (Value.int k))) 0 true)) (ho : o < zs.length) (x : Int) :
    storeV E H T (elA (.slice (some ⟨b, 0, s⟩) n cap) o) (.int k x) = some (undef, H.put b (some (.row (.lst ((zs.set o x).map (Value.int k))) 0 true))) := by
  unfold storeV elA
  simp only [he, Nat.zero_add]
  have e1 : Nat.beq (Value.int k x).cells.size 1 = true := rfl
  have e2 : (Value.int k x).cells.toList = [Value.int k x] := rfl
  rw [e1, e2]
  simp only []
  rw [Hp.wr_set hg (by simpa using ho) rfl]
  simp only [List.map_set]
theorem B_beq {T sz b1 : Nat} {z : Option (List Value)} {c c' : Bool} (hT : E.ty T = some ⟨.bool, sz, b1, z, c'⟩) (x y : Bool) : binA E .eql T c (.bool x) (.bool y) = some (.bool (x == y)) := by simp only [binA, hT]; rfl
theorem B_bne {T sz b1 : Nat} {z : Option (List Value)} {c c' : Bool} (hT : E.ty T = some ⟨.bool, sz, b1, z, c'⟩) (x y : Bool) : binA E .neq T c (.bool x) (.bool y) = some (.bool !(x == y)) := by simp only [binA, hT]; rfl
theorem binA_same (x : Bool) : (!(x == x)) = false := by cases x <;> rfl
/-- One round more of a loop. -/
def lp (E : Env) (b : Ac) (Q : Ax → Tr Value → Hp → Prop) : Ax → Tr Value → Hp → Prop
  | .nrm, t, H => WC E (.loop b) t H Q
  | ax, t, H => Q ax t H
theorem lp_nrm (b : Ac) (Q : Ax → Tr Value → Hp → Prop) : lp E b Q .nrm t H = WC E (.loop b) t H Q := rfl
theorem lp_exit (b : Ac) (i : Nat) (Q : Ax → Tr Value → Hp → Prop) : lp E b Q (.exit i) t H = Q (.exit i) t H := rfl
theorem lp_ret (b : Ac) (Q : Ax → Tr Value → Hp → Prop) : lp E b Q .ret t H = Q .ret t H := rfl
theorem VC.round {b : Ac} {Q : Ax → Tr Value → Hp → Prop} (h : VC E b t H (lp E b Q)) : WC E (.loop b) t H Q := by
  refine WC.round (h.w.mono fun ax t' H' hq => ?_)
  cases ax <;> exact hq
attribute [irreducible] lp
/-! slices cut -/
def bndV (x : Option Value) (d hi : Nat) : Option Nat := match x with
  | none => some d
  | some (.int _ n) => match leI 0 n && leI n (.ofNat hi) with
    | true => some n.toNat
    | false => none
  | some _ => none
def slcV (E : Env) (T : TypeId) (v : Value) (l h m : Option Value) : Option Value := match E.ty T, v with
    | some { k := .slc e, .. }, .slice a len cap => match E.ty e, bndV m cap cap with
      | some te, some mx => match bndV h len mx with
        | some hi => match bndV l 0 hi with
          | some lo => match a with
            | none => some (.slice none 0 0)
            | some ⟨b, o, some s⟩ =>
              if s = 2 * te.size ∨ s = 2 * te.size + 1 then
                some (.slice (some ⟨b, if mx = lo then o else o + lo * te.size, some (if m.isSome then 2 * te.size + 1 else s)⟩) (hi - lo) (mx - lo))
              else none
            | some ⟨_, _, none⟩ => match cap with
              | 0 => some (.slice (some ⟨0, 0, none⟩) 0 0)
              | _ + 1 => none
          | none => none
        | none => none
      | _, _ => none
    | _, _ => none
theorem bnd_V (x : Option Od) (d hi : Nat) : bnd t x d hi = bndV (x.map (Od.ev t)) d hi := by
  cases x with
  | none => rfl
  | some o =>
    show (match o.ev t with | .int _ n => (match leI 0 n && leI n (.ofNat hi) with | true => some n.toNat | false => none) | _ => none) = bndV (some (o.ev t)) d hi
    unfold bndV
    cases o.ev t <;> rfl
theorem P_slc (T : TypeId) {e sz by' : Nat} {z : Option (List Value)} {c : Bool} (hT : E.ty T = some ⟨.slc e, sz, by', z, c⟩) (x : Od) (l h m : Option Od) : pureA E t (.slc T x l h m) = slcV E T (x.ev t) (l.map (Od.ev t)) (h.map (Od.ev t)) (m.map (Od.ev t)) := by
  have e : (m.map (Od.ev t)).isSome = m.isSome := by cases m <;> rfl
  simp only [pureA, slcV, bnd_V, e, hT]
  cases x.ev t <;> rfl
theorem omap_some (f : Od → Value) (x : Od) : Option.map f (some x) = some (f x) := rfl
theorem omap_none (f : Od → Value) : Option.map f none = none := rfl
theorem bndV_none (d hi : Nat) : bndV none d hi = some d := rfl
theorem bndV_int {k : IntKind} {n : Int} {d hi : Nat} (h0 : 0 ≤ n) (h1 : n ≤ hi) : bndV (some (.int k n)) d hi = some n.toNat := by
  show (match leI 0 n && leI n (.ofNat hi) with | true => some n.toNat | false => none) = _
  rw [leI_eq, leI_eq, decide_eq_true h0, decide_eq_true (by simpa using h1)]; rfl
theorem Cl.rd_sub {c : Cl} {o n lo hi : Nat} {l : List Value} (h : c.rd o n = some l) (h1 : lo ≤ hi) (h2 : hi ≤ n) : c.rd (o + lo) (hi - lo) = some ((l.take hi).drop lo) := by
  have hlen := (Cl.rd_spec h).1
  cases c with
  | lst r =>
    simp only [Cl.rd] at h ⊢
    split at h
    · cases h
      have e : (r.drop (o + lo)).take (hi - lo) = (((r.drop o).take n).take hi).drop lo := by
        rw [List.take_take, Nat.min_eq_left h2, List.drop_take, List.drop_drop]
      rw [e]
      have : Nat.beq ((((r.drop o).take n).take hi).drop lo).length (hi - lo) = true := by
        rw [List.length_drop, List.length_take, hlen, Nat.min_eq_left h2]; exact Nat.beq_refl _
      rw [this]
    · cases h
  | big s z m =>
    simp only [Cl.rd] at h ⊢
    split at h
    · rename_i hb
      have hb := Nat.le_of_ble_eq_true hb
      cases h
      have : Nat.ble (o + lo + (hi - lo)) s = true := Nat.ble_eq_true_of_le (by omega)
      rw [this]
      simp only [Option.some.injEq]
      apply List.ext_getElem?
      intro j
      rw [List.getElem?_drop, List.getElem?_take, List.getElem?_map, List.getElem?_map]
      by_cases hj : j < hi - lo
      · rw [if_pos (by omega), List.getElem?_range hj, List.getElem?_range (by omega)]
        simp only [Option.map_some]
        rw [Nat.add_assoc]
      · rw [List.getElem?_eq_none (by simp; omega)]
        by_cases h3 : lo + j < hi
        · omega
        · rw [if_neg h3]; rfl
    · cases h
theorem Cl.rd_zero {c : Cl} {o n : Nat} {l : List Value} (h : c.rd o n = some l) : c.rd o 0 = some [] := by
  have := Cl.rd_sub (lo := 0) (hi := 0) h (Nat.le_refl _) (Nat.zero_le _)
  simpa using this
/-- s[l:h] of a slice of whole numbers. -/
theorem slcV_sl {T e b1 b2 : Nat} {z z2 : Option (List Value)} {c c2 : Bool} {ke : IntKind} (hT : E.ty T = some ⟨.slc e, 1, b1, z, c⟩) (he : E.ty e = some ⟨.int ke, 1, b2, z2, c2⟩) {k : IntKind} {v : Value} {zs : List Int} (hv : IsSl k H v zs) {l h : Option Value} {lo hi : Nat}
    (hh : ∀ cap, zs.length ≤ cap → bndV h zs.length cap = some hi) (hl : bndV l 0 hi = some lo) (h1 : lo ≤ hi) (h2 : hi ≤ zs.length) : ∃ v', slcV E T v l h none = some v' ∧ IsSl k H v' ((zs.take hi).drop lo) := by
  have fit : ∀ z ∈ (zs.take hi).drop lo, k.wrap z = z := fun z hz => hv.fit z (List.mem_of_mem_take (List.mem_of_mem_drop hz))
  rcases hv.is with ⟨rfl | rfl, rfl⟩ | ⟨b, o, s, cap, rfl, hs, hc, hr⟩
  · have h3 : hi = 0 := by simpa using h2
    subst h3
    have h4 : lo = 0 := by omega
    subst h4
    have h5 : bndV h 0 0 = some 0 := hh 0 (Nat.zero_le _)
    refine ⟨.slice none 0 0, ?_, ?_⟩
    · unfold slcV
      simp only [hT, he, bndV_none, h5, hl]
    · simpa using IsSl.nil' k H
  · have h3 : hi = 0 := by simpa using h2
    subst h3
    have h4 : lo = 0 := by omega
    subst h4
    have h5 : bndV h 0 0 = some 0 := hh 0 (Nat.zero_le _)
    refine ⟨.slice (some ⟨0, 0, none⟩) 0 0, ?_, ?_⟩
    · unfold slcV
      simp only [hT, he, bndV_none, h5, hl]
    · exact ⟨.inl ⟨.inr rfl, by simp⟩, fun z hz => by simp at hz⟩
  · refine ⟨.slice (some ⟨b, if cap = lo then o else o + lo * 1, some s⟩) (hi - lo) (cap - lo), ?_, ?_⟩
    · unfold slcV
      simp only [hT, he, bndV_none, hh cap hc, hl]
      rw [if_pos (by omega)]; rfl
    · have hlen : ((zs.take hi).drop lo).length = hi - lo := by simp; omega
      refine ⟨.inr ⟨b, if cap = lo then o else o + lo * 1, s, cap - lo, by rw [hlen], hs, by rw [hlen]; omega, ?_⟩, fit⟩
      rw [hlen]
      unfold Hp.rd at hr ⊢
      split at hr
      · rename_i c0 s0 rw0 hgt
        have e := Cl.rd_sub hr h1 h2
        rw [← List.map_take, ← List.map_drop] at e
        by_cases e1 : cap = lo
        · rw [if_pos e1]
          have e2 : hi - lo = 0 := by omega
          have e3 : ((zs.take hi).drop lo) = [] := List.eq_nil_of_length_eq_zero (by rw [hlen, e2])
          rw [e2, e3]; exact Cl.rd_zero hr
        · rw [if_neg e1, Nat.mul_one]; exact e
      · cases hr
end
end Go.Proofs.YtaegmplbkbaniaaGreatDoor
