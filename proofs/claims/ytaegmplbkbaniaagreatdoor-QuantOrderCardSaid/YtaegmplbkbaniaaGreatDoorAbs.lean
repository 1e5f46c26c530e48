/-
  THE ABSTRACT MACHINE: a summary that says less than the machine: rows forgotten, new rows under other numbers. No condition.
-/
import Derived.Test.YtaegmplbkbaniaaGreatDoorWp
set_option linter.all false
namespace Go.Proofs.YtaegmplbkbaniaaGreatDoor
open Go
/-- What stands for x' under σ's numbers stands for x. -/
def VA (N : Nat) (σ : Nat → Nat) (x x' : Value) : Prop := ∀ ρ1 ρ2 : Nat → Option Pl, (∀ i, i < N → ρ1 i = ρ2 (σ i)) → ∀ z, VR ρ2 x' z → VR ρ1 x z
theorem VA.scal {N : Nat} {σ : Nat → Nat} {v : Value} (h : scal v = true) : VA N σ v v := fun _ _ _ z hz => by
  rw [vr_ofScal h hz]; exact vr_scal h
theorem VA.sl {N : Nat} {σ : Nat → Nat} {id off s len cap cap2 : Nat} (hi : id < N) (hl : len ≤ cap) (hc : cap ≤ cap2) (hs : s % 2 = 1 → cap = cap2) :
    VA N σ (.slice (some ⟨id, off, some s⟩) len cap) (.slice (some ⟨σ id, off, some s⟩) len cap2) := fun ρ1 ρ2 h z hz => by
  have hid := h id hi
  generalize σ id = k at hz hid
  cases hz with
  | sl _ _ _ _ _ o' cap' p hp hl2 hc2 he ho hlo hhi =>
    exact .sl _ _ _ _ _ _ _ p (by rw [hid]; exact hp) hl (Nat.le_trans hc hc2) (fun h2 => by rw [he h2, hs h2]) (fun h2 => ho (by omega)) hlo hhi
theorem VA.ptr {N : Nat} {σ : Nat → Nat} {id off : Nat} (hi : id < N) : VA N σ (.pointer (some ⟨id, off, none⟩)) (.pointer (some ⟨σ id, off, none⟩)) := fun ρ1 ρ2 h z hz => by
  cases hz with
  | ptr _ _ p hp => exact .ptr _ _ p (by rw [h id hi]; exact hp)
theorem VA.map {N : Nat} {σ : Nat → Nat} {id : Nat} (hi : id < N) : VA N σ (.map (some id)) (.map (some (σ id))) := fun ρ1 ρ2 h z hz => by
  cases hz with
  | map _ p hp => exact .map _ p (by rw [h id hi]; exact hp)
theorem VA.iface {N : Nat} {σ : Nat → Nat} {t : TypeId} {v v' : Value} (hv : VA N σ v v') : VA N σ (.iface t v) (.iface t v') := fun ρ1 ρ2 h z hz => by
  cases hz with
  | iface _ _ u hu => exact .iface _ _ _ (hv ρ1 ρ2 h _ hu)
def LA (N : Nat) (σ : Nat → Nat) (l l' : List Value) : Prop := l.length = l'.length ∧ ∀ (i : Nat) (v v' : Value), l[i]? = some v → l'[i]? = some v' → VA N σ v v'
theorem LA.scal {N : Nat} {σ : Nat → Nat} {l : List Value} (h : l.all scal = true) : LA N σ l l :=
  ⟨rfl, fun i v v' h1 h2 => by rw [h1] at h2; cases h2; exact VA.scal (List.all_eq_true.1 h v (List.mem_of_getElem? h1))⟩
theorem LA.lr {N : Nat} {σ : Nat → Nat} {l l' z : List Value} (h : LA N σ l l') {ρ1 ρ2 : Nat → Option Pl} (hr : ∀ i, i < N → ρ1 i = ρ2 (σ i)) (hz : LR ρ2 l' z) : LR ρ1 l z := by
  refine ⟨by rw [h.1, hz.1], fun i v v' h1 h2 => ?_⟩
  have hi : i < l'.length := by rw [← h.1]; exact (List.getElem?_eq_some_iff.1 h1).1
  exact h.2 i v _ h1 (List.getElem?_eq_getElem hi) ρ1 ρ2 hr _ (hz.2 i _ _ (List.getElem?_eq_getElem hi) h2)
theorem VA.agg {N : Nat} {σ : Nat → Nat} {l l' : List Value} (h : LA N σ l l') : VA N σ (.agg ⟨l⟩) (.agg ⟨l'⟩) := fun ρ1 ρ2 hr z hz => by
  cases hz with
  | agg c c' hc h2 => exact .agg _ _ (by have := (h.lr hr (LR.arr hc h2)).1; simpa using this) (fun i v v' a b => (h.lr hr (LR.arr hc h2)).2 i v v' (by simpa using a) (by simpa using b))
theorem VA.tuple {N : Nat} {σ : Nat → Nat} {l l' : List Value} (h : LA N σ l l') : VA N σ (.tuple ⟨l⟩) (.tuple ⟨l'⟩) := fun ρ1 ρ2 hr z hz => by
  cases hz with
  | tuple c c' hc h2 => exact .tuple _ _ (by have := (h.lr hr (LR.arr hc h2)).1; simpa using this) (fun i v v' a b => (h.lr hr (LR.arr hc h2)).2 i v v' (by simpa using a) (by simpa using b))
/-- Numbers that stay as they are. -/
theorem VA.self {N : Nat} {v : Value} (h : ∀ ρ1 ρ2 : Nat → Option Pl, (∀ i, i < N → ρ1 i = ρ2 i) → ∀ z, VR ρ2 v z → VR ρ1 v z) : VA N (fun i => i) v v := h

/-- A value that names old rows alone. -/
def Lw (H : Hp) (v : Value) : Prop := ∀ (N : Nat) (σ : Nat → Nat), H.n ≤ N → (∀ i, i < H.n → σ i = i) → VA N σ v v
theorem VR.low {ρ : Nat → Option Pl} {M : Nat} (hd : ∀ i p, ρ i = some p → i < M) {v z0 : Value} (h : VR ρ v z0) : ∀ {ρ1 ρ2 : Nat → Option Pl}, (∀ i, i < M → ρ1 i = ρ2 i) → ∀ z, VR ρ2 v z → VR ρ1 v z := by
  induction h with
  | ptr id off p h => intro ρ1 ρ2 hr z hz; cases hz with
    | ptr _ _ q hq => exact .ptr _ _ q (by rw [hr _ (hd _ _ h)]; exact hq)
  | sl id off s len cap o' cap' p h hl hc he ho hlo hhi => intro ρ1 ρ2 hr z hz; cases hz with
    | sl _ _ _ _ _ o2 cap2 q hq a1 a2 a3 a4 a5 a6 => exact .sl _ _ _ _ _ _ _ q (by rw [hr _ (hd _ _ h)]; exact hq) a1 a2 a3 a4 a5 a6
  | map id p h => intro ρ1 ρ2 hr z hz; cases hz with
    | map _ q hq => exact .map _ q (by rw [hr _ (hd _ _ h)]; exact hq)
  | func g f c f' c' hf hc h1 h2 i1 i2 => intro ρ1 ρ2 hr z hz; cases hz with
    | func _ _ _ f2 c2 a1 a2 a3 a4 =>
      refine .func _ _ _ _ _ a1 a2 (fun i v v' g1 g2 => ?_) (fun i v v' g1 g2 => ?_)
      · have hi : i < f'.size := by rw [← hf]; exact (Array.getElem?_eq_some_iff.1 g1).1
        exact i1 i v _ g1 (Array.getElem?_eq_getElem hi) hr _ (a3 i v v' g1 g2)
      · have hi : i < c'.size := by rw [← hc]; exact (Array.getElem?_eq_some_iff.1 g1).1
        exact i2 i v _ g1 (Array.getElem?_eq_getElem hi) hr _ (a4 i v v' g1 g2)
  | iface t v v' h ih => intro ρ1 ρ2 hr z hz; cases hz with
    | iface _ _ u hu => exact .iface _ _ _ (ih hr _ hu)
  | agg c c' hc h ih => intro ρ1 ρ2 hr z hz; cases hz with
    | agg _ c2 a1 a2 =>
      refine .agg _ _ a1 (fun i v v' g1 g2 => ?_)
      have hi : i < c'.size := by rw [← hc]; exact (Array.getElem?_eq_some_iff.1 g1).1
      exact ih i v _ g1 (Array.getElem?_eq_getElem hi) hr _ (a2 i v v' g1 g2)
  | tuple c c' hc h ih => intro ρ1 ρ2 hr z hz; cases hz with
    | tuple _ c2 a1 a2 =>
      refine .tuple _ _ a1 (fun i v v' g1 g2 => ?_)
      have hi : i < c'.size := by rw [← hc]; exact (Array.getElem?_eq_some_iff.1 g1).1
      exact ih i v _ g1 (Array.getElem?_eq_getElem hi) hr _ (a2 i v v' g1 g2)
  | _ => intro ρ1 ρ2 hr z hz; cases hz; constructor
theorem VR.lw {ρ : Nat → Option Pl} {H : Hp} (hd : ∀ i p, ρ i = some p → i < H.n) {v z0 : Value} (h : VR ρ v z0) : Lw H v :=
  fun N σ hN hs ρ1 ρ2 hr z hz => h.low hd (fun i hi => by rw [hr i (by omega), hs i hi]) z hz

structure Abs (H : Hp) (v : Value) (H1 : Hp) (v2 : Value) (H2 : Hp) : Prop where
  ex : ∃ σ : Nat → Nat, H.n ≤ H1.n ∧ (∀ i, i < H.n → σ i = i) ∧ (∀ i j o o', i ≠ j → H1.get i = some o → H1.get j = some o' → σ i ≠ σ j) ∧ VA H1.n σ v v2 ∧ (∀ id, H1.n ≤ id → H1.get id = none) ∧
    (∀ id c s rw, H1.get id = some (.row c s rw) → (id < H.n ∧ H1.get id = H.get id ∧ H2.get id = H.get id) ∨ ∃ c2 s2 rw2, H2.get (σ id) = some (.row c2 s2 rw2) ∧ c.len + s ≤ c2.len + s2 ∧ (rw = true → rw2 = true) ∧ ∀ j, j < c.len → ∃ x y, c.at j = some x ∧ c2.at j = some y ∧ VA H1.n σ x y) ∧
    (∀ id es, H1.get id = some (.map es) → (id < H.n ∧ H1.get id = H.get id ∧ H2.get id = H.get id) ∨ ∃ es2, H2.get (σ id) = some (.map es2) ∧ es.length = es2.length ∧ ∀ (i : Nat) (k v : Value), es[i]? = some (k, v) → ∃ v2, es2[i]? = some (k, v2) ∧ VA H1.n σ v v2)
section
variable {P : Program} {ρ : Nat → Option Pl}
theorem Abs.pr {ns : Nat} {H : Hp} {w : World} (hH : HR ρ ns H w) {ρ2 : Nat → Option Pl} {v : Value} {H1 : Hp} {v2 : Value} {H2 : Hp} {w' : World} (ha : Abs H v H1 v2 H2) (hp : PR ns ρ H w ρ2 H2 w') {z : Value} (hv : VR ρ2 v2 z) :
    ∃ ρ1, VR ρ1 v z ∧ PR ns ρ H w ρ1 H1 w' := by
  obtain ⟨σ, s1, s2, s3, s4, s0, s5', s6'⟩ := ha.ex
  have lowc : ∀ id c s rw j x, H.get id = some (.row c s rw) → c.at j = some x → Lw H x := fun id c s rw j x hg hx => by
    obtain ⟨p, cs, e, fz, k0, k1, k2, k3, k4, k5⟩ := hH.row _ _ _ _ hg
    obtain ⟨u, u', u1, u2, u3⟩ := k4 j (Cl.at_lt hx)
    rw [hx] at u1; cases u1
    exact VR.lw hH.lt u3
  have lowm : ∀ id es i k x, H.get id = some (.map es) → es[i]? = some (k, x) → Lw H x := fun id es i k x hg hx => by
    obtain ⟨p, ents, clk, k0, k1, k2, k3⟩ := hH.map _ _ hg
    have hi : i < ents.size := by rw [k2]; exact (List.getElem?_eq_some_iff.1 hx).1
    exact VR.lw hH.lt (k3 i k x _ hx (Array.getElem?_eq_getElem hi)).2.2
  have s5 : (∀ id c s rw, H1.get id = some (.row c s rw) → ∃ c2 s2 rw2, H2.get (σ id) = some (.row c2 s2 rw2) ∧ c.len + s ≤ c2.len + s2 ∧ (rw = true → rw2 = true) ∧ ∀ j, j < c.len → ∃ x y, c.at j = some x ∧ c2.at j = some y ∧ VA H1.n σ x y) := fun id c s rw h => by
    rcases s5' id c s rw h with ⟨e1, e2, e3⟩ | h2
    · refine ⟨c, s, rw, by rw [s2 id e1, e3, ← e2]; exact h, Nat.le_refl _, fun x => x, fun j hj => ?_⟩
      obtain ⟨x, hx⟩ := Cl.at_some hj
      exact ⟨x, x, hx, hx, lowc id c s rw j x (by rw [← e2]; exact h) hx _ _ s1 s2⟩
    · exact h2
  have s6 : (∀ id es, H1.get id = some (.map es) → ∃ es2, H2.get (σ id) = some (.map es2) ∧ es.length = es2.length ∧ ∀ (i : Nat) (k v : Value), es[i]? = some (k, v) → ∃ v2, es2[i]? = some (k, v2) ∧ VA H1.n σ v v2) := fun id es h => by
    rcases s6' id es h with ⟨e1, e2, e3⟩ | h2
    · exact ⟨es, by rw [s2 id e1, e3, ← e2]; exact h, rfl, fun i k v hv => ⟨v, hv, lowm id es i k v (by rw [← e2]; exact h) hv _ _ s1 s2⟩⟩
    · exact h2
  let ρ1 : Nat → Option Pl := fun i => if i < H1.n then ρ2 (σ i) else none
  have r1 : ∀ i, i < H1.n → ρ1 i = ρ2 (σ i) := fun i hi => if_pos hi
  have dom : ∀ i o, H1.get i = some o → i < H1.n := fun i o ho => by
    rcases Nat.lt_or_ge i H1.n with h | h
    · exact h
    · rw [s0 i h] at ho; cases ho
  have back : ∀ i o, H1.get i = some o → ∃ o2, H2.get (σ i) = some o2 ∧ (o.rw = true → o2.rw = true) := fun i o ho => by
    cases o with
    | row c s rw => obtain ⟨c2, q2, rw2, g1, _, g2, _⟩ := s5 i c s rw ho; exact ⟨_, g1, g2⟩
    | map es => obtain ⟨es2, g1, _⟩ := s6 i es ho; exact ⟨_, g1, fun _ => rfl⟩
  refine ⟨ρ1, s4 ρ1 ρ2 r1 z hv, ⟨⟨fun id p h => ?_, fun i hi => ?_, fun id c s rw h => ?_, fun id es h => ?_, fun id id' o o' p p' hne h1 h2 h3 h4 h5 => ?_⟩, s1, fun id hi => ?_, hp.fr, fun id o p h1 h2 => ?_⟩⟩
  · rcases Nat.lt_or_ge id H1.n with h2 | h2
    · exact h2
    · simp only [ρ1, if_neg (Nat.not_lt.2 h2)] at h; cases h
  · obtain ⟨p, p1, p2⟩ := hH.st i hi
    have := hH.lt i p p1
    refine ⟨p, ?_, p2⟩
    rw [r1 i (by omega), s2 i this, hp.ag i this]; exact p1
  · obtain ⟨c2, q2, rw2, g1, g2, g3, g4⟩ := s5 id c s rw h
    obtain ⟨p, cs, e, fz, k0, k1, k2, k3, k4, k5⟩ := hp.hr.row _ _ _ _ g1
    refine ⟨p, cs, e, fz, by rw [r1 id (dom id _ h)]; exact k0, k1, k2, by omega, fun j hj => ?_, fun hr => k5 (g3 hr)⟩
    obtain ⟨x, y, x1, x2, x3⟩ := g4 j hj
    have hj2 : j < c2.len := Cl.at_lt x2
    obtain ⟨u, u', u1, u2, u3⟩ := k4 j hj2
    rw [x2] at u1; cases u1
    exact ⟨x, u', x1, u2, x3 ρ1 ρ2 r1 _ u3⟩
  · obtain ⟨es2, g1, g2, g3⟩ := s6 id es h
    obtain ⟨p, ents, clk, k0, k1, k2, k3⟩ := hp.hr.map _ _ g1
    refine ⟨p, ents, clk, by rw [r1 id (dom id _ h)]; exact k0, k1, by rw [k2, g2], fun i k v e h1 h2 => ?_⟩
    obtain ⟨v2, x1, x2⟩ := g3 i k v h1
    obtain ⟨y1, y2, y3⟩ := k3 i k v2 e x1 h2
    exact ⟨y1, y2, x2 ρ1 ρ2 r1 _ y3⟩
  · obtain ⟨o2, q1, q2⟩ := back id o h1
    obtain ⟨o3, q3, q4⟩ := back id' o' h3
    rw [r1 id (dom id _ h1)] at h4
    rw [r1 id' (dom id' _ h3)] at h5
    exact hp.hr.sep _ _ _ _ _ _ (s3 id id' o o' hne h1 h3) q1 (q2 h2) q3 h4 h5
  · rw [r1 id (by omega), s2 id hi, hp.ag id hi]
  · obtain ⟨o2, q1, q2⟩ := back id o h1
    rw [r1 id (dom id _ h1)] at h2
    rcases hp.nb _ _ _ q1 h2 with hb | ⟨id0, o0, p0, b1, b2, b3, b4⟩
    · exact .inl hb
    · exact .inr ⟨id0, o0, p0, b1, b2, fun hr => b3 (q2 hr), b4⟩
/-- What a call may lean on of its memory. -/
structure OkH (ns : Nat) (H : Hp) (args : List Value) : Prop where
  wf : ∀ id, H.n ≤ id → H.get id = none
  ns : ns ≤ H.n
  args : ∀ (i : Nat) (a : Value), args[i]? = some a → Lw H a
  cells : ∀ id c s rw j x, H.get id = some (.row c s rw) → c.at j = some x → Lw H x
/-- A SUMMARY, from the machine. -/
theorem FnOk.of {E : Env} (hE : EOk P E) (hX : XOk P E) {f : FuncId} {g : List Value → Hp → Option (Value × Hp)}
    (h : ∀ args H v H1, OkH (P.globals.size + 1) H args → g args H = some (v, H1) → WF E f args H fun v2 H2 => Abs H v H1 v2 H2) : FnOk P g f := by
  intro ρ H w args args' v H1 hH hl hg
  have hn : P.globals.size + 1 ≤ H.n := by
    obtain ⟨p, p1, _⟩ := hH.st P.globals.size (by omega)
    exact hH.lt _ _ p1
  have ok : OkH (P.globals.size + 1) H args := ⟨fun id hid => hH.get_none (hH.fresh hid), hn, fun i a ha => by
    have hi : i < args'.length := by rw [← hl.1]; exact (List.getElem?_eq_some_iff.1 ha).1
    exact VR.lw hH.lt (hl.2 i a _ ha (List.getElem?_eq_getElem hi)), fun id c s rw j x hg hx => by
    obtain ⟨p, cs, e, fz, k0, k1, k2, k3, k4, k5⟩ := hH.row _ _ _ _ hg
    obtain ⟨u, u', u1, u2, u3⟩ := k4 j (Cl.at_lt hx)
    rw [hx] at u1; cases u1
    exact VR.lw hH.lt u3⟩
  obtain ⟨n, v2, H2, h1, h2⟩ := h args H v H1 ok hg
  refine (callA_sound hE hX n f ρ H w args args' v2 H2 hH hl h1).mono fun z w' hz => ?_
  obtain ⟨ρ2, z1, z2⟩ := hz
  exact h2.pr hH z2 z1
end
/-- The memory as it was, and more. -/
structure Grows (H H' : Hp) : Prop where
  n : H.n ≤ H'.n
  get : ∀ id, id < H.n → H'.get id = H.get id
  wf : ∀ id, H'.n ≤ id → H'.get id = none
theorem Grows.trans {H H1 H2 : Hp} (h : Grows H H1) (k : Grows H1 H2) : Grows H H2 :=
  ⟨Nat.le_trans h.n k.n, fun id hi => by rw [k.get id (by have := h.n; omega), h.get id hi], k.wf⟩
theorem Grows.refl {H : Hp} (h : ∀ id, H.n ≤ id → H.get id = none) : Grows H H := ⟨Nat.le_refl _, fun _ _ => rfl, h⟩
theorem Grows.alloc {H : Hp} (h : ∀ id, H.n ≤ id → H.get id = none) (o : AObj) : Grows H (H.alloc o) := by
  refine ⟨by simp [Hp.alloc], fun id hi => ?_, fun id hi => ?_⟩
  · rw [Hp.get_alloc, if_neg (by omega)]
  · have : (H.alloc o).n = H.n + 1 := rfl
    rw [Hp.get_alloc, if_neg (by omega)]; exact h id (by omega)
/-- A row of one's own written anew. -/
theorem Grows.put {H H' : Hp} (h : Grows H H') {id : Nat} (hi : H.n ≤ id) (hj : id < H'.n) (o : Option AObj) : Grows H (H'.put id o) :=
  ⟨h.n, fun i hl => by rw [Hp.get_put, if_neg (by omega)]; exact h.get i hl, fun i hl => by
    have : (H'.put id o).n = H'.n := rfl
    rw [Hp.get_put, if_neg (by omega)]; exact h.wf i (by omega)⟩
/-- A value handed back, all else forgotten. -/
theorem Abs.keep {H : Hp} {v v2 : Value} {H2 : Hp} (wf : ∀ id, H.n ≤ id → H.get id = none) (hg : ∀ id, id < H.n → H2.get id = H.get id) (hv : VA H.n (fun i => i) v v2) : Abs H v H v2 H2 := by
  have dom : ∀ i o, H.get i = some o → i < H.n := fun i o ho => by
    rcases Nat.lt_or_ge i H.n with h | h
    · exact h
    · rw [wf i h] at ho; cases ho
  exact ⟨fun i => i, Nat.le_refl _, fun _ _ => rfl, fun i j _ _ h _ _ => h, hv, wf, fun id c s rw h => .inl ⟨dom id _ h, rfl, hg id (dom id _ h)⟩, fun id es h => .inl ⟨dom id _ h, rfl, hg id (dom id _ h)⟩⟩
/-- One new row handed back. -/
theorem Abs.new1 {H : Hp} {v v2 : Value} {H2 : Hp} (wf : ∀ id, H.n ≤ id → H.get id = none) (hg : ∀ id, id < H.n → H2.get id = H.get id) {id2 : Nat} (hid : H.n ≤ id2) {c c2 : Cl} {s s2 : Nat} {rw rw2 : Bool}
    (h2 : H2.get id2 = some (.row c2 s2 rw2)) (hrw : rw = true → rw2 = true) (hs : c.len + s ≤ c2.len + s2)
    (hc : ∀ j, j < c.len → ∃ x y, c.at j = some x ∧ c2.at j = some y ∧ VA (H.n + 1) (fun i => if i = H.n then id2 else i) x y)
    (hv : VA (H.n + 1) (fun i => if i = H.n then id2 else i) v v2) : Abs H v (H.alloc (.row c s rw)) v2 H2 := by
  have dom : ∀ i o, H.get i = some o → i < H.n := fun i o ho => by
    rcases Nat.lt_or_ge i H.n with h | h
    · exact h
    · rw [wf i h] at ho; cases ho
  have hn : (H.alloc (.row c s rw)).n = H.n + 1 := rfl
  refine ⟨fun i => if i = H.n then id2 else i, by rw [hn]; omega, fun i hi => if_neg (by omega), fun i j o o' hne h1 h3 => ?_, by rw [hn]; exact hv, fun id hi => ?_, fun id c' s' rw' h => ?_, fun id es h => ?_⟩
  · rw [Hp.get_alloc] at h1 h3
    show (if i = H.n then id2 else i) ≠ (if j = H.n then id2 else j)
    by_cases e1 : i = H.n
    · rw [if_pos e1]
      by_cases e2 : j = H.n
      · omega
      · rw [if_neg e2] at h3 ⊢; have := dom j _ h3; omega
    · rw [if_neg e1] at h1 ⊢
      have := dom i _ h1
      by_cases e2 : j = H.n
      · rw [if_pos e2]; omega
      · rw [if_neg e2]; exact hne
  · rw [hn] at hi; rw [Hp.get_alloc, if_neg (by omega)]; exact wf id (by omega)
  · rw [Hp.get_alloc] at h
    by_cases e1 : id = H.n
    · rw [if_pos e1] at h; cases h
      exact .inr ⟨c2, s2, rw2, by show H2.get (if id = H.n then id2 else id) = _; rw [if_pos e1]; exact h2, hs, hrw, by rw [hn]; exact hc⟩
    · rw [if_neg e1] at h
      have hl := dom id _ h
      exact .inl ⟨hl, by rw [Hp.get_alloc, if_neg e1], hg id hl⟩
  · rw [Hp.get_alloc] at h
    by_cases e1 : id = H.n
    · rw [if_pos e1] at h; cases h
    · rw [if_neg e1] at h
      have hl := dom id _ h
      exact .inl ⟨hl, by rw [Hp.get_alloc, if_neg e1], hg id hl⟩
end Go.Proofs.YtaegmplbkbaniaaGreatDoor
