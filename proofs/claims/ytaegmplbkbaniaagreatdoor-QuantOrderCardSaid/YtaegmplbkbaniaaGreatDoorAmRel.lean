/-
  THE ABSTRACT MACHINE: what it means that an abstract value, an abstract memory stand for a value and a memory of the model; what reading, writing, making and forgetting a row does to that. No condition.
-/
import Derived.Test.YtaegmplbkbaniaaGreatDoorAmComp
import Derived.WalkKit
set_option linter.all false
namespace Go.Proofs.YtaegmplbkbaniaaGreatDoor
open Go

/-- Where a row lies: its block, its first cell there, how many cells the block has. -/
structure Pl where
  blk : Nat
  off : Nat
  sz : Nat

inductive VR (ρ : Nat → Option Pl) : Value → Value → Prop
  | bool (b : Bool) : VR ρ (.bool b) (.bool b)
  | int (k : IntKind) (i : Int) : VR ρ (.int k i) (.int k i)
  | string (s : ByteArray) : VR ρ (.string s) (.string s)
  | ptr0 : VR ρ (.pointer none) (.pointer none)
  | ptr (id off : Nat) (p : Pl) (h : ρ id = some p) : VR ρ (.pointer (some ⟨id, off, none⟩)) (.pointer (some ⟨p.blk, p.off + off, none⟩))
  | sl0 : VR ρ (.slice none 0 0) (.slice none 0 0)
  | sl (id off s len cap o' cap' : Nat) (p : Pl) (h : ρ id = some p) (hl : len ≤ cap) (hc : cap ≤ cap') (he : s % 2 = 1 → cap' = cap)
      (ho : 0 < cap → o' = p.off + off) (hlo : p.off ≤ o') (hhi : s % 2 = 0 → o' + cap' * (s / 2) ≤ p.sz) :
      VR ρ (.slice (some ⟨id, off, some s⟩) len cap) (.slice (some ⟨p.blk, o', none⟩) len cap')
  | slz (a : Addr) : VR ρ (.slice (some ⟨0, 0, none⟩) 0 0) (.slice (some a) 0 0)
  | map0 : VR ρ (.map none) (.map none)
  | map (id : Nat) (p : Pl) (h : ρ id = some p) : VR ρ (.map (some id)) (.map (some p.blk))
  | nilFunc : VR ρ .nilFunc .nilFunc
  | nilIface : VR ρ .nilIface .nilIface
  | func (g : FuncId) (f c f' c' : Array Value) (hf : f.size = f'.size) (hc : c.size = c'.size)
      (h1 : ∀ (i : Nat) (v v' : Value), f[i]? = some v → f'[i]? = some v' → VR ρ v v') (h2 : ∀ (i : Nat) (v v' : Value), c[i]? = some v → c'[i]? = some v' → VR ρ v v') :
      VR ρ (.func (.func g) f c) (.func (.func g) f' c')
  | iface (t : TypeId) (v v' : Value) (h : VR ρ v v') : VR ρ (.iface t v) (.iface t v')
  | agg (c c' : Array Value) (hc : c.size = c'.size) (h : ∀ (i : Nat) (v v' : Value), c[i]? = some v → c'[i]? = some v' → VR ρ v v') : VR ρ (.agg c) (.agg c')
  | tuple (c c' : Array Value) (hc : c.size = c'.size) (h : ∀ (i : Nat) (v v' : Value), c[i]? = some v → c'[i]? = some v' → VR ρ v v') : VR ρ (.tuple c) (.tuple c')

/-- Two lists, cell by cell. -/
def LR (ρ : Nat → Option Pl) (l l' : List Value) : Prop :=
  l.length = l'.length ∧ ∀ (i : Nat) (v v' : Value), l[i]? = some v → l'[i]? = some v' → VR ρ v v'

section
variable {ρ : Nat → Option Pl}
theorem VR.undef : VR ρ undef undef := .tuple _ _ rfl (fun i v v' h => by simp at h)
theorem VR.mono {ρ' : Nat → Option Pl} (ha : ∀ i p, ρ i = some p → ρ' i = some p) {v v' : Value} (h : VR ρ v v') : VR ρ' v v' := by
  induction h with
  | bool b => exact .bool b
  | int k i => exact .int k i
  | string s => exact .string s
  | ptr0 => exact .ptr0
  | ptr id off p h => exact .ptr id off p (ha id p h)
  | sl0 => exact .sl0
  | slz a => exact .slz a
  | sl id off s len cap o' cap' p h hl hc he ho hlo hhi => exact .sl id off s len cap o' cap' p (ha id p h) hl hc he ho hlo hhi
  | map0 => exact .map0
  | map id p h => exact .map id p (ha id p h)
  | nilFunc => exact .nilFunc
  | nilIface => exact .nilIface
  | func g f c f' c' hf hc _ _ h1 h2 => exact .func g f c f' c' hf hc h1 h2
  | iface t v v' _ h => exact .iface t v v' h
  | agg c c' hc _ h => exact .agg c c' hc h
  | tuple c c' hc _ h => exact .tuple c c' hc h
theorem LR.mono {ρ' : Nat → Option Pl} (ha : ∀ i p, ρ i = some p → ρ' i = some p) {l l' : List Value} (h : LR ρ l l') : LR ρ' l l' :=
  ⟨h.1, fun i v v' a b => (h.2 i v v' a b).mono ha⟩
theorem LR.nil : LR ρ [] [] := ⟨rfl, fun i v v' h => by simp at h⟩
theorem LR.cons {v v' : Value} {l l' : List Value} (h : VR ρ v v') (hl : LR ρ l l') : LR ρ (v :: l) (v' :: l') := by
  refine ⟨by simp [hl.1], fun i a a' ha ha' => ?_⟩
  cases i with
  | zero => simp at ha ha'; subst ha; subst ha'; exact h
  | succ i => simp at ha ha'; exact hl.2 i a a' ha ha'
theorem LR.one {v v' : Value} (h : VR ρ v v') : LR ρ [v] [v'] := .cons h .nil
theorem LR.inv {v : Value} {l l' : List Value} (h : LR ρ (v :: l) l') : ∃ v' r, l' = v' :: r ∧ VR ρ v v' ∧ LR ρ l r := by
  obtain ⟨h1, h2⟩ := h
  cases l' with
  | nil => simp at h1
  | cons v' r =>
    refine ⟨v', r, rfl, h2 0 v v' rfl rfl, by simpa using h1, fun i a a' ha ha' => h2 (i + 1) a a' (by simpa using ha) (by simpa using ha')⟩
theorem LR.inv0 {l' : List Value} (h : LR ρ [] l') : l' = [] := by
  have := h.1; simp at this; simpa using this.symm
theorem LR.append {a b a' b' : List Value} (h : LR ρ a a') (k : LR ρ b b') : LR ρ (a ++ b) (a' ++ b') := by
  refine ⟨by simp [h.1, k.1], fun i v v' hv hv' => ?_⟩
  rw [List.getElem?_append] at hv hv'
  rw [← h.1] at hv'
  by_cases hi : i < a.length
  · rw [if_pos hi] at hv hv'; exact h.2 i v v' hv hv'
  · rw [if_neg hi] at hv hv'; exact k.2 _ v v' hv hv'
theorem LR.take {a a' : List Value} (h : LR ρ a a') (m : Nat) : LR ρ (a.take m) (a'.take m) := by
  refine ⟨by simp [h.1], fun i v v' hv hv' => ?_⟩
  rw [List.getElem?_take] at hv hv'
  by_cases hi : i < m
  · rw [if_pos hi] at hv hv'; exact h.2 i v v' hv hv'
  · rw [if_neg hi] at hv; cases hv
theorem LR.drop {a a' : List Value} (h : LR ρ a a') (m : Nat) : LR ρ (a.drop m) (a'.drop m) := by
  refine ⟨by simp [h.1], fun i v v' hv hv' => ?_⟩
  rw [List.getElem?_drop] at hv hv'
  exact h.2 _ v v' hv hv'
theorem LR.arr {c c' : Array Value} (hc : c.size = c'.size) (h : ∀ (i : Nat) (v v' : Value), c[i]? = some v → c'[i]? = some v' → VR ρ v v') : LR ρ c.toList c'.toList :=
  ⟨by simpa using hc, fun i v v' a b => h i v v' (by simpa using a) (by simpa using b)⟩
theorem LR.agg {l l' : List Value} (h : LR ρ l l') : VR ρ (.agg ⟨l⟩) (.agg ⟨l'⟩) :=
  .agg _ _ (by simpa using h.1) (fun i v v' a b => h.2 i v v' (by simpa using a) (by simpa using b))
theorem LR.tuple {l l' : List Value} (h : LR ρ l l') : VR ρ (.tuple ⟨l⟩) (.tuple ⟨l'⟩) :=
  .tuple _ _ (by simpa using h.1) (fun i v v' a b => h.2 i v v' (by simpa using a) (by simpa using b))
theorem vr_scal {v : Value} (h : scal v = true) : VR ρ v v := by
  cases v with
  | bool b => exact .bool b
  | int k i => exact .int k i
  | string s => exact .string s
  | pointer a => cases a with
    | none => exact .ptr0
    | some a => simp [scal] at h
  | map a => cases a with
    | none => exact .map0
    | some a => simp [scal] at h
  | slice a l c =>
    cases a with
    | some a => simp [scal] at h
    | none =>
      cases l <;> cases c <;> simp [scal] at h
      exact .sl0
  | nilFunc => exact .nilFunc
  | nilIface => exact .nilIface
  | _ => simp [scal] at h
theorem vr_ofScal {v v' : Value} (h : scal v = true) (hr : VR ρ v v') : v' = v := by
  cases hr <;> first | rfl | (simp [scal] at h)
theorem lr_scal {l : List Value} (h : l.all scal = true) : LR ρ l l := by
  refine ⟨rfl, fun i v v' hv hv' => ?_⟩
  rw [hv] at hv'; cases hv'
  exact vr_scal (List.all_eq_true.1 h v (List.mem_of_getElem? hv))
theorem lr_ofScal {l l' : List Value} (h : l.all scal = true) (hr : LR ρ l l') : l' = l := by
  induction l generalizing l' with
  | nil => exact hr.inv0
  | cons v r ih =>
    obtain ⟨v', r', rfl, h1, h2⟩ := hr.inv
    simp at h
    rw [vr_ofScal h.1 h1, ih (by simpa using h.2) h2]
theorem vr_constOk {v : Value} (h : constOk v = true) : VR ρ v v := by
  cases v with
  | agg cs => exact .agg _ _ rfl (fun i v v' a b => by rw [a] at b; cases b; exact vr_scal (List.all_eq_true.1 h v (List.mem_of_getElem? (i := i) (by simpa using a))))
  | tuple cs => exact .tuple _ _ rfl (fun i v v' a b => by rw [a] at b; cases b; exact vr_scal (List.all_eq_true.1 h v (List.mem_of_getElem? (i := i) (by simpa using a))))
  | iface t v => exact .iface _ _ _ (vr_scal h)
  | _ => exact vr_scal h
/-- A value's cells. -/
theorem VR.cells {v v' : Value} (h : VR ρ v v') : LR ρ v.cells.toList v'.cells.toList := by
  cases h with
  | agg c c' hc h => exact LR.arr hc h
  | bool b => exact .one (.bool b)
  | int k i => exact .one (.int k i)
  | string s => exact .one (.string s)
  | ptr0 => exact .one .ptr0
  | ptr id off p h => exact .one (.ptr id off p h)
  | sl0 => exact .one .sl0
  | slz a => exact .one (.slz a)
  | sl id off s len cap o' cap' p h hl hc he ho hlo hhi => exact .one (.sl id off s len cap o' cap' p h hl hc he ho hlo hhi)
  | map0 => exact .one .map0
  | map id p h => exact .one (.map id p h)
  | nilFunc => exact .one .nilFunc
  | nilIface => exact .one .nilIface
  | func g f c f' c' hf hc h1 h2 => exact .one (.func g f c f' c' hf hc h1 h2)
  | iface t v v' h => exact .one (.iface t v v' h)
  | tuple c c' hc h => exact .one (.tuple c c' hc h)
theorem vr_one {v v' : Value} (h : VR ρ v v') (ho : one v = true) : one v' = true := by
  cases h <;> first | rfl | (simp [one] at ho)
theorem lr_ones {l l' : List Value} (h : LR ρ l l') (ho : l.all one = true) : l'.all one = true := by
  induction l generalizing l' with
  | nil => rw [h.inv0]; rfl
  | cons v r ih =>
    obtain ⟨v', r', rfl, h1, h2⟩ := h.inv
    simp only [List.all_cons, Bool.and_eq_true] at ho ⊢
    exact ⟨vr_one h1 ho.1, ih h2 ho.2⟩
end

/-! ### Memory -/

structure HR (ρ : Nat → Option Pl) (ns : Nat) (H : Hp) (w : World) : Prop where
  lt : ∀ id p, ρ id = some p → id < H.n
  st : ∀ i, i < ns → ∃ p, ρ i = some p ∧ p.blk = i ∧ p.off = 0
  row : ∀ id c s rw, H.get id = some (.row c s rw) → ∃ p cs e fz, ρ id = some p ∧ w.heap[p.blk]? = some (.cells cs e fz) ∧ cs.size = p.sz ∧
    p.off + c.len + s ≤ p.sz ∧ (∀ j, j < c.len → ∃ v v', c.at j = some v ∧ cs[p.off + j]? = some v' ∧ VR ρ v v') ∧
    (rw = true → fz.1 = fz.2)
  map : ∀ id es, H.get id = some (.map es) → ∃ p ents clk, ρ id = some p ∧ w.heap[p.blk]? = some (.map ents clk) ∧ ents.size = es.length ∧
    ∀ (i : Nat) (k v : Value) (e : MapEntry), es[i]? = some (k, v) → ents[i]? = some e → scal k = true ∧ e.key = k ∧ VR ρ v e.val
  sep : ∀ id id' o o' p p', id ≠ id' → H.get id = some o → o.rw = true → H.get id' = some o' → ρ id = some p → ρ id' = some p' → p.blk ≠ p'.blk

/-- Nothing but the rows that may be written has turned. -/
structure Fr (ρ : Nat → Option Pl) (H : Hp) (w w' : World) : Prop where
  os : w'.os = w.os
  tape : w'.tape = w.tape
  output : w'.output = w.output
  size : w.heap.size ≤ w'.heap.size
  blk : ∀ b, b < w.heap.size → (∀ id o p, H.get id = some o → o.rw = true → ρ id = some p → p.blk ≠ b) → w'.heap[b]? = w.heap[b]?

structure PR (ns : Nat) (ρ : Nat → Option Pl) (H : Hp) (w : World) (ρ' : Nat → Option Pl) (H' : Hp) (w' : World) : Prop where
  hr : HR ρ' ns H' w'
  n : H.n ≤ H'.n
  ag : ∀ id, id < H.n → ρ' id = ρ id
  fr : Fr ρ H w w'
  nb : ∀ id o p, H'.get id = some o → ρ' id = some p → w.heap.size ≤ p.blk ∨ ∃ id0 o0 p0, H.get id0 = some o0 ∧ ρ id0 = some p0 ∧ (o.rw = true → o0.rw = true) ∧ p0.blk = p.blk

section
variable {ρ ρ' : Nat → Option Pl} {ns : Nat} {H H' : Hp} {w w' : World}
theorem Fr.refl : Fr ρ H w w := ⟨rfl, rfl, rfl, Nat.le_refl _, fun _ _ _ => rfl⟩
theorem HR.has (h : HR ρ ns H w) {id : Nat} {o : AObj} (ho : H.get id = some o) : ∃ p, ρ id = some p ∧ p.blk < w.heap.size := by
  cases o with
  | row c s rw => obtain ⟨p, cs, e, fz, h0, h1, _⟩ := h.row id c s rw ho; exact ⟨p, h0, (Array.getElem?_eq_some_iff.1 h1).1⟩
  | map es => obtain ⟨p, cs, e, h0, h1, _⟩ := h.map id es ho; exact ⟨p, h0, (Array.getElem?_eq_some_iff.1 h1).1⟩
theorem HR.size (h : HR ρ ns H w) {id : Nat} {o : AObj} {p : Pl} (ho : H.get id = some o) (hp : ρ id = some p) : p.blk < w.heap.size := by
  obtain ⟨q, h1, h2⟩ := h.has ho
  rw [hp] at h1; cases h1; exact h2
theorem PR.refl (h : HR ρ ns H w) : PR ns ρ H w ρ H w := ⟨h, Nat.le_refl _, fun _ _ => rfl, .refl, fun id o p ho hp => .inr ⟨id, o, p, ho, hp, fun x => x, rfl⟩⟩
theorem PR.trans {ρ1 ρ2 : Nat → Option Pl} {H1 H2 : Hp} {w1 w2 : World} (h : PR ns ρ H w ρ1 H1 w1) (k : PR ns ρ1 H1 w1 ρ2 H2 w2) : PR ns ρ H w ρ2 H2 w2 := by
  refine ⟨k.hr, Nat.le_trans h.n k.n, fun id hi => by rw [k.ag id (by have := h.n; omega), h.ag id hi], ⟨k.fr.os.trans h.fr.os, k.fr.tape.trans h.fr.tape, k.fr.output.trans h.fr.output, Nat.le_trans h.fr.size k.fr.size, fun b hb hno => ?_⟩, fun id o p ho hp => ?_⟩
  · rw [k.fr.blk b (by have := h.fr.size; omega) (fun id o p ho hrw hp => ?_), h.fr.blk b hb hno]
    rcases h.nb id o p ho hp with h1 | ⟨id0, o0, p0, h1, h2, h3, h4⟩
    · omega
    · rw [← h4]; exact hno id0 o0 p0 h1 (h3 hrw) h2
  · rcases k.nb id o p ho hp with h1 | ⟨id1, o1, p1, h1, h2, h3, h4⟩
    · exact .inl (by have := h.fr.size; omega)
    · rcases h.nb id1 o1 p1 h1 h2 with h5 | ⟨id0, o0, p0, h5, h6, h7, h8⟩
      · exact .inl (by rw [← h4]; exact h5)
      · exact .inr ⟨id0, o0, p0, h5, h6, fun hh => h7 (h3 hh), by rw [h8, h4]⟩
/-- What stood for a value stands for it. -/
theorem PR.up (h : HR ρ ns H w) (k : PR ns ρ H w ρ' H' w') : ∀ i p, ρ i = some p → ρ' i = some p := fun i p hp => by rw [k.ag i (h.lt i p hp)]; exact hp
/-- Forgetting rows. -/
theorem HR.sub {K : Hp} (h : HR ρ ns H w) (hn : H.n ≤ K.n) (hs : ∀ id o, K.get id = some o → H.get id = some o) : HR ρ ns K w where
  lt := fun id p hp => Nat.lt_of_lt_of_le (h.lt id p hp) hn
  st := h.st
  row := fun id c s rw ho => h.row id c s rw (hs _ _ ho)
  map := fun id es ho => h.map id es (hs _ _ ho)
  sep := fun id id' o o' p p' hne h1 h2 h3 => h.sep id id' o o' p p' hne (hs _ _ h1) h2 (hs _ _ h3)
theorem PR.sub {K : Hp} (h : HR ρ ns H w) (hn : H.n ≤ K.n) (hs : ∀ id o, K.get id = some o → H.get id = some o) : PR ns ρ H w ρ K w :=
  ⟨h.sub hn hs, hn, fun _ _ => rfl, .refl, fun id o p ho hp => .inr ⟨id, o, p, hs _ _ ho, hp, fun x => x, rfl⟩⟩
/-- The world but for its draws. -/
theorem HR.world {w2 : World} (h : HR ρ ns H w) (hw : w2.heap = w.heap) : HR ρ ns H w2 where
  lt := h.lt
  st := h.st
  row := by rw [hw]; exact h.row
  map := by rw [hw]; exact h.map
  sep := h.sep
theorem PR.draw (h : HR ρ ns H w) (k : Nat) : PR ns ρ H w ρ H { w with drawn := k } :=
  ⟨h.world rfl, Nat.le_refl _, fun _ _ => rfl, ⟨rfl, rfl, rfl, Nat.le_refl _, fun _ _ _ => rfl⟩, fun id o p ho hp => .inr ⟨id, o, p, ho, hp, fun x => x, rfl⟩⟩
/-- More numbers, nothing known of them. -/
theorem PR.reserve (h : HR ρ ns H w) (k : Nat) : PR ns ρ H w ρ (H.reserve k) w :=
  PR.sub h (by simp [Hp.reserve]) (fun _ _ ho => ho)
theorem HR.get_none (h : HR ρ ns H w) {id : Nat} (hid : ρ id = none) : H.get id = none := by
  cases ho : H.get id with
  | none => rfl
  | some o => obtain ⟨p, hp, _⟩ := h.has ho; rw [hid] at hp; cases hp
theorem HR.fresh (h : HR ρ ns H w) {id : Nat} (hid : H.n ≤ id) : ρ id = none := by
  cases hp : ρ id with
  | none => rfl
  | some p => have := h.lt id p hp; omega

theorem Hp.get_put (H : Hp) (i j : Nat) (o : Option AObj) : (H.put i o).get j = if j = i then o else H.get j := Tr.get_put _ _ _ _
theorem Hp.get_alloc (H : Hp) (o : AObj) (j : Nat) : (H.alloc o).get j = if j = H.n then some o else H.get j := Tr.get_put _ _ _ _
theorem Hp.alloc_eq (H : Hp) (o : AObj) : H.alloc o = (H.reserve 1).put H.n (some o) := rfl

def upd (ρ : Nat → Option Pl) (n : Nat) (p : Pl) : Nat → Option Pl := fun i => if i = n then some p else ρ i
theorem upd_same (ρ : Nat → Option Pl) (n : Nat) (p : Pl) : upd ρ n p n = some p := if_pos rfl
theorem upd_ne (ρ : Nat → Option Pl) {n i : Nat} (p : Pl) (h : i ≠ n) : upd ρ n p i = ρ i := if_neg h
theorem upd_up {ρ : Nat → Option Pl} {n : Nat} {p : Pl} (h : ρ n = none) : ∀ i q, ρ i = some q → upd ρ n p i = some q := fun i q hq => by
  rw [upd_ne]; exact hq
  intro e; subst e; rw [h] at hq; cases hq

/-- A block that stands there becomes known, under a number that stood for nothing. -/
theorem HR.add (h : HR ρ ns H w) {id : Nat} (hid : ρ id = none) (hlt : id < H.n) {o : AObj} {p : Pl}
    (hno : ∀ id o q, H.get id = some o → ρ id = some q → q.blk ≠ p.blk)
    (ho : match o with
      | .row c s rw => ∃ cs e fz, w.heap[p.blk]? = some (.cells cs e fz) ∧ cs.size = p.sz ∧ p.off + c.len + s ≤ p.sz ∧
          (∀ j, j < c.len → ∃ v v', c.at j = some v ∧ cs[p.off + j]? = some v' ∧ VR ρ v v') ∧ (rw = true → fz.1 = fz.2)
      | .map es => ∃ ents clk, w.heap[p.blk]? = some (.map ents clk) ∧ ents.size = es.length ∧
          ∀ (i : Nat) (k v : Value) (e : MapEntry), es[i]? = some (k, v) → ents[i]? = some e → scal k = true ∧ e.key = k ∧ VR ρ v e.val) :
    HR (upd ρ id p) ns (H.put id (some o)) w where
  lt := fun i q hq => by
    by_cases e : i = id
    · subst e; exact hlt
    · rw [upd_ne _ _ e] at hq; exact h.lt i q hq
  st := fun i hi => by
    obtain ⟨q, h1, h2⟩ := h.st i hi
    exact ⟨q, upd_up hid i q h1, h2⟩
  row := fun i c s rw hg => by
    rw [Hp.get_put] at hg
    by_cases e : i = id
    · subst e
      rw [if_pos rfl] at hg; cases hg
      obtain ⟨cs, e, fz, h1, h2, h3, h4, h5⟩ := ho
      exact ⟨p, cs, e, fz, upd_same _ _ _, h1, h2, h3, fun j hj => let ⟨v, v', a, b, c⟩ := h4 j hj; ⟨v, v', a, b, c.mono (upd_up hid)⟩, h5⟩
    · rw [if_neg e] at hg
      obtain ⟨q, cs, e', fz, h0, h1, h2, h3, h4, h5⟩ := h.row i c s rw hg
      exact ⟨q, cs, e', fz, upd_up hid _ _ h0, h1, h2, h3, fun j hj => let ⟨v, v', a, b, c⟩ := h4 j hj; ⟨v, v', a, b, c.mono (upd_up hid)⟩, h5⟩
  map := fun i es hg => by
    rw [Hp.get_put] at hg
    by_cases e : i = id
    · subst e
      rw [if_pos rfl] at hg; cases hg
      obtain ⟨ents, clk, h1, h2, h3⟩ := ho
      exact ⟨p, ents, clk, upd_same _ _ _, h1, h2, fun i k v e a b => let ⟨x, y, z⟩ := h3 i k v e a b; ⟨x, y, z.mono (upd_up hid)⟩⟩
    · rw [if_neg e] at hg
      obtain ⟨q, ents, clk, h0, h1, h2, h3⟩ := h.map i es hg
      exact ⟨q, ents, clk, upd_up hid _ _ h0, h1, h2, fun i k v e a b => let ⟨x, y, z⟩ := h3 i k v e a b; ⟨x, y, z.mono (upd_up hid)⟩⟩
  sep := fun i i' a a' q q' hne h1 h2 h3 h4 h5 => by
    rw [Hp.get_put] at h1 h3
    by_cases e : i = id
    · subst e
      rw [if_neg (Ne.symm hne)] at h3
      rw [upd_same] at h4; cases h4
      rw [upd_ne _ _ (Ne.symm hne)] at h5
      exact (hno i' a' q' h3 h5).symm
    · rw [if_neg e] at h1
      rw [upd_ne _ _ e] at h4
      by_cases e' : i' = id
      · subst e'
        rw [upd_same] at h5; cases h5
        exact hno i a q h1 h4
      · rw [if_neg e'] at h3
        rw [upd_ne _ _ e'] at h5
        exact h.sep i i' a a' q q' hne h1 h2 h3 h4 h5
/-- A new block at the end of memory. -/
theorem HR.grow (h : HR ρ ns H w) (o : Obj) : HR ρ ns H (w.alloc o) := by
  have key : ∀ b x, w.heap[b]? = some x → (w.alloc o).heap[b]? = some x := fun b x hx => by
    have := (Array.getElem?_eq_some_iff.1 hx).1
    show (w.heap.push o)[b]? = _
    rw [Array.getElem?_push, if_neg (by omega)]; exact hx
  refine ⟨h.lt, h.st, fun id c s rw ho => ?_, fun id es ho => ?_, h.sep⟩
  · obtain ⟨p, cs, e, fz, h0, h1, r⟩ := h.row id c s rw ho
    exact ⟨p, cs, e, fz, h0, key _ _ h1, r⟩
  · obtain ⟨p, ents, clk, h0, h1, r⟩ := h.map id es ho
    exact ⟨p, ents, clk, h0, key _ _ h1, r⟩
theorem Fr.alloc (o : Obj) : Fr ρ H w (w.alloc o) :=
  ⟨rfl, rfl, rfl, by simp, fun b hb _ => by show (w.heap.push o)[b]? = _; rw [Array.getElem?_push, if_neg (by omega)]⟩
theorem heap_alloc_new (w : World) (o : Obj) : (w.alloc o).heap[w.heap.size]? = some o := by
  show (w.heap.push o)[w.heap.size]? = _; simp
/-- A new block becomes known, under a number that stood for nothing (a reserved one). -/
theorem PR.allocAt (h : HR ρ ns H w) {id : Nat} (hid : ρ id = none) (hlt : id < H.n) {o : AObj} {ob : Obj} {sz : Nat}
    (ho : match o, ob with
      | .row c s rw, .cells cs _ fz => cs.size = sz ∧ c.len + s ≤ sz ∧ (∀ j, j < c.len → ∃ v v', c.at j = some v ∧ cs[j]? = some v' ∧ VR ρ v v') ∧ (rw = true → fz.1 = fz.2)
      | .map es, .map ents _ => ents.size = es.length ∧ ∀ (i : Nat) (k v : Value) (e : MapEntry), es[i]? = some (k, v) → ents[i]? = some e → scal k = true ∧ e.key = k ∧ VR ρ v e.val
      | _, _ => False) :
    HR (upd ρ id ⟨w.heap.size, 0, sz⟩) ns (H.put id (some o)) (w.alloc ob) := by
  refine (h.grow ob).add hid hlt (fun id o q h1 h2 => ?_) ?_
  · have := h.size h1 h2; simp; omega
  · cases o with
    | row c s rw =>
      cases ob with
      | cells cs e fz =>
        obtain ⟨h1, h2, h3, h4⟩ := ho
        exact ⟨cs, e, fz, heap_alloc_new _ _, h1, by simpa using h2, fun j hj => by simpa using h3 j hj, h4⟩
      | _ => exact ho.elim
    | map es =>
      cases ob with
      | map ents clk => exact ⟨ents, clk, heap_alloc_new _ _, ho.1, ho.2⟩
      | _ => exact ho.elim
/-- The same at the next number. -/
theorem PR.alloc (h : HR ρ ns H w) {o : AObj} {ob : Obj} {sz : Nat}
    (ho : match o, ob with
      | .row c s rw, .cells cs _ fz => cs.size = sz ∧ c.len + s ≤ sz ∧ (∀ j, j < c.len → ∃ v v', c.at j = some v ∧ cs[j]? = some v' ∧ VR ρ v v') ∧ (rw = true → fz.1 = fz.2)
      | .map es, .map ents _ => ents.size = es.length ∧ ∀ (i : Nat) (k v : Value) (e : MapEntry), es[i]? = some (k, v) → ents[i]? = some e → scal k = true ∧ e.key = k ∧ VR ρ v e.val
      | _, _ => False) :
    PR ns ρ H w (upd ρ H.n ⟨w.heap.size, 0, sz⟩) (H.alloc o) (w.alloc ob) := by
  have hid : ρ H.n = none := h.fresh (Nat.le_refl _)
  refine ⟨?_, by simp [Hp.alloc], fun id hi => upd_ne _ _ (by omega), .alloc _, fun id o' p h1 h2 => ?_⟩
  · rw [Hp.alloc_eq]
    exact PR.allocAt (PR.reserve h 1).hr hid (by simp [Hp.reserve]) ho
  · rw [Hp.get_alloc] at h1
    by_cases e : id = H.n
    · subst e; rw [upd_same] at h2; cases h2; exact .inl (Nat.le_refl _)
    · rw [if_neg e] at h1; rw [upd_ne _ _ e] at h2; exact .inr ⟨id, o', p, h1, h2, fun x => x, rfl⟩
end

end Go.Proofs.YtaegmplbkbaniaaGreatDoor
