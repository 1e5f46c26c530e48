/-
  slices.Insert at small slices of hits: the summary, proved. No condition.
-/
import Derived.Test.YtaegmplbkbaniaaGreatDoorIns
set_option linter.all false
namespace Go.Proofs.YtaegmplbkbaniaaGreatDoor
open Go Go.Extern
set_option maxRecDepth 100000
theorem ins_fin {P : Program} {ns : Nat} {ρ : Nat → Option Pl} {H : Hp} {w : World} (hH : HR ρ ns H w) {K : Hp} (hK : ∀ id o, K.get id = some o → H.get id = some o) (hKn : K.n = H.n)
    {ρs ρ2 : Nat → Option Pl} {Hs H2 : Hp} {w' : World} (hp : PR ns ρs Hs w ρ2 H2 w')
    (rws : ∀ id o p, Hs.get id = some o → ρs id = some p → ∃ id0 o0 p0, H.get id0 = some o0 ∧ o0.rw = true ∧ ρ id0 = some p0 ∧ p0.blk = p.blk ∧ K.get id0 = none)
    {k : Nat} {l : List Value} (g : H2.get k = some (.row (.lst l) 0 true)) {q : Pl} (hq : ρ2 k = some q) (hl : l.all scal = true) :
    PR ns ρ H w (upd ρ H.n q) (K.alloc (.row (.lst l) 0 true)) w' := by
  have apartS : ∀ id o p, K.get id = some o → ρ id = some p → ∀ ids os ps, Hs.get ids = some os → ρs ids = some ps → p.blk ≠ ps.blk := fun id o p h1 h2 ids os ps h3 h4 => by
    obtain ⟨id0, o0, p0, e1, e2, e3, e4, e5⟩ := rws _ _ _ h3 h4
    have hne : id0 ≠ id := fun e => by subst e; rw [e5] at h1; cases h1
    have := hH.sep _ _ _ _ _ _ hne e1 e2 (hK _ _ h1) e3 h2
    rw [← e4]; exact this.symm
  have keep : ∀ id o p, K.get id = some o → ρ id = some p → w'.heap[p.blk]? = w.heap[p.blk]? := fun id o p h1 h2 =>
    hp.fr.blk p.blk (hH.size (hK _ _ h1) h2) fun id' o' p' h3 _ h4 => (apartS _ _ _ h1 h2 _ _ _ h3 h4).symm
  have hK' : HR ρ ns K w' := by
    refine ⟨fun id p h => by rw [hKn]; exact hH.lt id p h, hH.st, fun id c s rw h => ?_, fun id es h => ?_, fun id id' o o' p p' hne h1 h2 h3 h4 h5 => hH.sep id id' o o' p p' hne (hK _ _ h1) h2 (hK _ _ h3) h4 h5⟩
    · obtain ⟨p, cs, e, fz, k0, k1, k2⟩ := hH.row id c s rw (hK _ _ h)
      exact ⟨p, cs, e, fz, k0, by rw [keep _ _ _ h k0]; exact k1, k2⟩
    · obtain ⟨p, en, clk, k0, k1, k2⟩ := hH.map id es (hK _ _ h)
      exact ⟨p, en, clk, k0, by rw [keep _ _ _ h k0]; exact k1, k2⟩
  have hid : ρ H.n = none := hH.fresh (Nat.le_refl _)
  obtain ⟨q', cs, e, fz, k0, k1, k2, k3, k4, k5⟩ := hp.hr.row _ _ _ _ g
  rw [hq] at k0; cases k0
  have hnb := hp.nb _ _ _ g hq
  have hadd : HR (upd ρ H.n q) ns (K.alloc (.row (.lst l) 0 true)) w' := by
    rw [Hp.alloc_eq, hKn]
    refine HR.add (PR.reserve hK' 1).hr hid (by simp [Hp.reserve, hKn]) (fun id o p h1 h2 => ?_) ⟨cs, e, fz, k1, k2, k3, fun j hj => ?_, k5⟩
    · rcases hnb with h3 | ⟨id0, o0, p0, h3, h4, h5, h6⟩
      · have := hH.size (hK _ _ h1) h2; omega
      · rw [← h6]; exact apartS _ _ _ h1 h2 _ _ _ h3 h4
    · obtain ⟨u, u', u1, u2, u3⟩ := k4 j hj
      have hs : scal u = true := List.all_eq_true.1 hl u (List.mem_of_getElem? u1)
      rw [vr_ofScal hs u3] at u2
      exact ⟨u, u, u1, u2, vr_scal hs⟩
  refine ⟨hadd, by rw [show (K.alloc (.row (.lst l) 0 true)).n = K.n + 1 from rfl, hKn]; omega, fun id hi => upd_ne _ _ (by omega), ⟨hp.fr.os, hp.fr.tape, hp.fr.output, hp.fr.size, fun b hb hno => ?_⟩, fun id o p h1 h2 => ?_⟩
  · refine hp.fr.blk b hb fun id o p h1 h2 h3 => ?_
    obtain ⟨id0, o0, p0, e1, e2, e3, e4, e5⟩ := rws _ _ _ h1 h3
    rw [← e4]; exact hno _ _ _ e1 e2 e3
  · rw [Hp.get_alloc] at h1
    by_cases e1 : id = K.n
    · rw [e1, hKn, upd_same] at h2; cases h2
      rw [if_pos e1] at h1; cases h1
      rcases hnb with h3 | ⟨id0, o0, p0, h3, h4, h5, h6⟩
      · exact .inl h3
      · obtain ⟨id1, o1, p1, f1, f2, f3, f4, f5⟩ := rws _ _ _ h3 h4
        exact .inr ⟨id1, o1, p1, f1, f3, fun _ => f2, by rw [f4, h6]⟩
    · rw [if_neg e1] at h1
      rw [upd_ne _ _ (by rw [← hKn]; exact e1)] at h2
      exact .inr ⟨id, o, p, hK _ _ h1, h2, fun x => x, rfl⟩
/-- The cells that a slice's elements lie in. -/
theorem rd_cells {ns : Nat} {ρ : Nat → Option Pl} {H : Hp} {w : World} (hH : HR ρ ns H w) {id off n : Nat} {c : Cl} {s : Nat} (hg : H.get id = some (.row c s true)) {l : List Value} (hr : H.rd id off n = some l) (hl : l.all scal = true) :
    ∃ p cs e fz, ρ id = some p ∧ w.heap[p.blk]? = some (.cells cs e fz) ∧ cs.size = p.sz ∧ l.length = n ∧ (0 < n → p.off + off + n ≤ p.sz) ∧ (∀ j, j < n → cs[p.off + off + j]? = l[j]?) ∧ fz.1 = fz.2 := by
  obtain ⟨p, cs, e, fz, k0, k1, k2, k3, k4, k5⟩ := hH.row _ _ _ _ hg
  unfold Hp.rd at hr
  rw [hg] at hr
  obtain ⟨g1, g2⟩ := Cl.rd_spec hr
  refine ⟨p, cs, e, fz, k0, k1, k2, g1, fun hn => ?_, fun j hj => ?_, k5 rfl⟩
  · have := (g2 (n - 1) (by omega)).2; omega
  · obtain ⟨a1, a2⟩ := g2 j hj
    obtain ⟨u, u', u1, u2, u3⟩ := k4 _ a2
    rw [u1] at a1
    have hs : scal u = true := List.all_eq_true.1 hl u (List.mem_of_getElem? a1)
    rw [vr_ofScal hs u3] at u2
    rw [Nat.add_assoc, u2, a1]
def rhoI (ρ : Nat → Option Pl) (p2 p3 : Option Pl) : Nat → Option Pl := fun i => if i < 2 then ρ i else if i = 2 then p2 else if i = 3 then p3 else none
/-- The memory in which the machine walks slices.Insert, laid. -/
theorem ins_start {ρ : Nat → Option Pl} {H : Hp} {w : World} (hH : HR ρ (Tryz.prog.globals.size + 1) H w) {l2 l3 : List Value} {s2 : Nat} {p2 p3 : Pl} {cs2 cs3 : Array Value} {e2 e3 : TypeId} {fz2 fz3 : Nat × Nat} (two : Bool)
    (a1 : two = true → w.heap[p2.blk]? = some (.cells cs2 e2 fz2) ∧ cs2.size = p2.sz ∧ p2.off + l2.length + s2 ≤ p2.sz ∧ (∀ j, j < l2.length → cs2[p2.off + j]? = l2[j]?) ∧ fz2.1 = fz2.2 ∧ p2.blk ≠ p3.blk) (h2 : l2.all scal = true)
    (b1 : w.heap[p3.blk]? = some (.cells cs3 e3 fz3)) (b2 : cs3.size = p3.sz) (b3 : p3.off + l3.length ≤ p3.sz) (b4 : ∀ j, j < l3.length → cs3[p3.off + j]? = l3[j]?) (b5 : fz3.1 = fz3.2) (h3 : l3.all scal = true) :
    HR (rhoI ρ (if two then some p2 else none) (some p3)) (Tryz.prog.globals.size + 1) (HI (if two then rowI l2 s2 else none) (rowI l3 0)) w := by
  have gt : ∀ i, (HI (if two then rowI l2 s2 else none) (rowI l3 0)).get i = if i = 3 then rowI l3 0 else if i = 2 then (if two then rowI l2 s2 else none) else none := fun i => by
    show (Tr.put (Tr.put .nil 2 _) 3 _).get i = _
    rw [Tr.get_put, Tr.get_put, Tr.get_nil]
  have cell : ∀ {l : List Value} {cs : Array Value} {o : Nat}, l.all scal = true → (∀ j, j < l.length → cs[o + j]? = l[j]?) → ∀ j, j < (Cl.lst l).len → ∀ r : Nat → Option Pl, ∃ v v', (Cl.lst l).at j = some v ∧ cs[o + j]? = some v' ∧ VR r v v' := fun {l cs o} hs hc j hj r => by
    have hj : j < l.length := hj
    refine ⟨l[j], l[j], List.getElem?_eq_getElem hj, by rw [hc j hj]; exact List.getElem?_eq_getElem hj, vr_scal (List.all_eq_true.1 hs _ (List.getElem_mem hj))⟩
  refine ⟨fun id p h => ?_, fun i hi => ?_, fun id c s rw h => ?_, fun id es h => ?_, fun id id' o o' p p' hne g1 g2 g3 g4 g5 => ?_⟩
  · show id < 4
    unfold rhoI at h
    split at h
    · omega
    · split at h
      · omega
      · split at h
        · omega
        · cases h
  · have hi2 : i < 2 := by rw [tryz_ns] at hi; exact hi
    obtain ⟨p, q1, q2⟩ := hH.st i hi
    exact ⟨p, by unfold rhoI; rw [if_pos hi2]; exact q1, q2⟩
  · rw [gt] at h
    split at h
    · rename_i h0; subst h0; cases h
      exact ⟨p3, cs3, e3, fz3, rfl, b1, b2, b3, fun j hj => cell h3 b4 j hj _, fun _ => b5⟩
    · split at h
      · rename_i h0; subst h0
        split at h
        · rename_i ht; subst ht; cases h
          obtain ⟨c1, c2, c3, c4, c5, c6⟩ := a1 rfl
          exact ⟨p2, cs2, e2, fz2, rfl, c1, c2, c3, fun j hj => cell h2 c4 j hj _, fun _ => c5⟩
        · cases h
      · cases h
  · rw [gt] at h
    split at h
    · cases h
    · split at h
      · split at h <;> cases h
      · cases h
  · rw [gt] at g1 g3
    by_cases e1 : id = 3
    · subst e1
      have : some p3 = some p := g4
      cases this
      rw [if_neg (Ne.symm hne)] at g3
      by_cases e2 : id' = 2
      · subst e2
        rw [if_pos rfl] at g3
        cases two with
        | false => cases g3
        | true =>
          have : some p2 = some p' := g5
          cases this
          exact ((a1 rfl).2.2.2.2.2).symm
      · rw [if_neg e2] at g3; cases g3
    · rw [if_neg e1] at g1
      by_cases e2 : id = 2
      · subst e2
        rw [if_pos rfl] at g1
        cases two with
        | false => cases g1
        | true =>
          have : some p2 = some p := g4
          cases this
          by_cases e3 : id' = 3
          · subst e3
            have : some p3 = some p' := g5
            cases this
            exact (a1 rfl).2.2.2.2.2
          · rw [if_neg e3, if_neg (Ne.symm hne)] at g3; cases g3
      · rw [if_neg e2] at g1; cases g1

def mkI (H : Hp) (b vb : Nat) (l : List Value) (n : Nat) : Value × Hp := (.slice (some ⟨H.n, 0, some 4⟩) n n, ((H.put b none).put vb none).alloc (.row (.lst l) 0 true))
/-- slices.Insert(s, i, v) at no hit, one, two. -/
def insertA : GF := fun args H => match args with
  | [s, .int .i64 i, .slice (some ⟨vb, vo, some 5⟩) 1 1] => match H.get vb, H.rd vb vo 2 with
    | some (.row _ _ true), some [.int .i64 x, .int .i64 y] => match s with
      | .slice none 0 0 => match ltI i 1 && leI 0 i with
        | true => some (mkI H vb vb [J x, J y] 1)
        | false => none
      | .slice (some ⟨b, o, some 4⟩) 1 _ => match Nat.beq b vb, H.get b, H.rd b o 2, ltI i 1 && leI 0 i with
        | false, some (.row _ _ true), some [.int .i64 a, .int .i64 c], true => some (mkI H b vb [J x, J y, J a, J c] 2)
        | _, _, _, _ => none
      | .slice (some ⟨b, o, some 4⟩) 2 _ => match Nat.beq b vb, H.get b, H.rd b o 4, ltI i 2 && leI 1 i with
        | false, some (.row _ _ true), some [.int .i64 a, .int .i64 c, .int .i64 d, .int .i64 e], true => some (mkI H b vb [J a, J c, J x, J y, J d, J e] 3)
        | _, _, _, _ => none
      | _ => none
    | _, _ => none
  | _ => none
theorem xOk_I : XOk Tryz.prog (envT extI) := envT_x (fun _ _ h => extI_ok h)
theorem J_scal {l : List Value} (h : ∀ v ∈ l, ∃ n, v = J n) : l.all scal = true := List.all_eq_true.2 fun v hv => by
  obtain ⟨n, rfl⟩ := h v hv; rfl
theorem ok91 : FnOk Tryz.prog insertA 91 := by
  intro ρ H w args args' v H' hH hl hg
  unfold insertA at hg
  split at hg
  · rename_i s i vb vo
    obtain ⟨z2, r, e, k1, k2⟩ := hl.inv
    obtain ⟨zi, r2, e2, k3, k4⟩ := k2.inv
    obtain ⟨z3, r3, e3, k5, k6⟩ := k4.inv
    have := k6.inv0; subst this; subst e3; subst e2; subst e
    cases k3
    cases k5 with
    | sl _ _ _ _ _ o3 cap3 pv hpv h31 h32 h33 h34 h35 h36 =>
    have hc3 := h33 rfl
    subst hc3
    have ho3 := h34 (by omega)
    subst ho3
    split at hg
    · rename_i cv sv x y hgv hrv
      obtain ⟨pv', csv, ev, fzv, v0, v1, v2, v3, v4, v5, v6⟩ := rd_cells hH hgv hrv rfl
      rw [hpv] at v0; cases v0
      have v4 := v4 (by omega)
      -- the third argument's row
      have vr3 : ∀ p2 : Option Pl, VR (rhoI ρ p2 (some ⟨pv.blk, pv.off + vo, pv.sz⟩)) (.slice (some ⟨3, 0, some 5⟩) 1 1) (.slice (some ⟨pv.blk, pv.off + vo, none⟩) 1 1) := fun p2 =>
        .sl 3 0 5 1 1 (pv.off + vo) 1 ⟨pv.blk, pv.off + vo, pv.sz⟩ rfl (by omega) (by omega) (fun _ => rfl) (fun _ => rfl) (Nat.le_refl _) (fun h => by omega)
      have two : ∀ (b o : Nat) (n cp : Nat) (l : List Value) (l' : List Value) (ii : Nat) (hn : 0 < n) (hll : l.length = 2 * n) (hls : l.all scal = true) (hls' : l'.all scal = true) (hbv : b ≠ vb) (c : Cl) (s : Nat) (hgb : H.get b = some (.row c s true)) (hrb : H.rd b o (2 * n) = some l)
          (_ : VR ρ (.slice (some ⟨b, o, some 4⟩) n cp) z2)
          (_ : see 4 (callA (envT extI) 60 91 [.slice (some ⟨2, 0, some 5⟩) n n, J ii, .slice (some ⟨3, 0, some 5⟩) 1 1] (HI (rowI l 0) (rowI [J x, J y] 0))) = some (.slice (some ⟨4, 0, some 4⟩) (n + 1) (n + 1), rowI l' 0, rowI [J x, J y] 0))
          (_ : ∀ k, see 2 (callA (envT extI) 60 91 [.slice (some ⟨2, 0, some 5⟩) n (k + (n + 1)), J ii, .slice (some ⟨3, 0, some 5⟩) 1 1] (HI (rowI l 2) (rowI [J x, J y] 0))) = some (.slice (some ⟨2, 0, some 5⟩) (n + 1) (k + (n + 1)), rowI l' 0, rowI [J x, J y] 0)),
          Lands Tryz.prog (fun v' w' => ∃ ρ', VR ρ' (mkI H b vb l' (n + 1)).1 v' ∧ PR (Tryz.prog.globals.size + 1) ρ H w ρ' (mkI H b vb l' (n + 1)).2 w') ((callFunc 91 [z2, J ii, .slice (some ⟨pv.blk, pv.off + vo, none⟩) 1 1].toArray).run Tryz.prog w) := by
        intro b o n cp l l' ii hn hll hls hls' hbv c s hgb hrb hz rx ro
        cases hz with
        | sl _ _ _ _ _ o' cap' p hp hlc hcc he ho hlo hhi =>
        have ho := ho (by omega)
        have hhi := hhi (by omega)
        obtain ⟨p', cs, eb, fz, q0, q1, q2, q3, q4, q5, q6⟩ := rd_cells hH hgb hrb hls
        rw [hp] at q0; cases q0
        have q4 := q4 (by omega)
        have hblk : p.blk ≠ pv.blk := hH.sep _ _ _ _ _ _ hbv hgb rfl hgv hp hpv
        have start : ∀ s2, o' + l.length + s2 ≤ p.sz → HR (rhoI ρ (some ⟨p.blk, o', p.sz⟩) (some ⟨pv.blk, pv.off + vo, pv.sz⟩)) (Tryz.prog.globals.size + 1) (HI (rowI l s2) (rowI [J x, J y] 0)) w := fun s2 hs2 =>
          ins_start hH (p2 := ⟨p.blk, o', p.sz⟩) (p3 := ⟨pv.blk, pv.off + vo, pv.sz⟩) true (fun _ => ⟨q1, q2, hs2, fun j hj => by show cs[o' + j]? = _; rw [ho]; exact q5 j (by omega), q6, hblk⟩) hls v1 v2 (by simpa using v4) (fun j hj => v5 j (by simpa using hj)) v6 rfl
        have rws : ∀ s2 id o0 p0, (HI (rowI l s2) (rowI [J x, J y] 0)).get id = some o0 → rhoI ρ (some ⟨p.blk, o', p.sz⟩) (some ⟨pv.blk, pv.off + vo, pv.sz⟩) id = some p0 →
            ∃ id0 o1 p1, H.get id0 = some o1 ∧ o1.rw = true ∧ ρ id0 = some p1 ∧ p1.blk = p0.blk ∧ ((H.put b none).put vb none).get id0 = none := fun s2 id o0 p0 h1 h2 => by
          have gt : (HI (rowI l s2) (rowI [J x, J y] 0)).get id = if id = 3 then rowI [J x, J y] 0 else if id = 2 then rowI l s2 else none := by
            show (Tr.put (Tr.put .nil 2 _) 3 _).get id = _
            rw [Tr.get_put, Tr.get_put, Tr.get_nil]
          rw [gt] at h1
          by_cases e1 : id = 3
          · subst e1
            have h2 : some (⟨pv.blk, pv.off + vo, pv.sz⟩ : Pl) = some p0 := h2
            cases h2
            exact ⟨vb, _, pv, hgv, rfl, hpv, rfl, by rw [Hp.get_put, if_pos rfl]⟩
          · rw [if_neg e1] at h1
            by_cases e2 : id = 2
            · subst e2
              have h2 : some (⟨p.blk, o', p.sz⟩ : Pl) = some p0 := h2
              cases h2
              exact ⟨b, _, p, hgb, rfl, hp, rfl, by rw [Hp.get_put, if_neg hbv, Hp.get_put, if_pos rfl]⟩
            · rw [if_neg e2] at h1; cases h1
        have hsub : ∀ id o0, ((H.put b none).put vb none).get id = some o0 → H.get id = some o0 := fun id o0 h => by
          rw [Hp.get_put] at h
          split at h
          · cases h
          · rw [Hp.get_put] at h
            split at h
            · cases h
            · exact h
        rcases Nat.lt_or_ge cap' (n + 1) with hlt | hge
        · -- no room
          have hc : n = cap' := by omega
          subst hc
          obtain ⟨H2, u1, u2, u3⟩ := see_some rx
          have hls2 : LR (rhoI ρ (some ⟨p.blk, o', p.sz⟩) (some ⟨pv.blk, pv.off + vo, pv.sz⟩)) [.slice (some ⟨2, 0, some 5⟩) n n, J ii, .slice (some ⟨3, 0, some 5⟩) 1 1] [.slice (some ⟨p.blk, o', none⟩) n n, J ii, .slice (some ⟨pv.blk, pv.off + vo, none⟩) 1 1] :=
            .cons (.sl 2 0 5 n n o' n ⟨p.blk, o', p.sz⟩ rfl (Nat.le_refl _) (Nat.le_refl _) (fun _ => rfl) (fun _ => rfl) (Nat.le_refl _) (fun h => by omega)) (.cons (.int _ _) (.one (vr3 _)))
          refine (callA_sound (envT_ok extI) xOk_I 60 91 _ _ w _ _ _ H2 (start 0 (by omega)) hls2 u1).mono fun z w' hz => ?_
          obtain ⟨ρ2, z1, z2⟩ := hz
          cases z1 with
          | sl _ _ _ _ _ o4 cap4 q4' hq4 g1 g2 g3 g4 g5 g6 =>
          refine ⟨_, ?_, ins_fin (P := Tryz.prog) hH hsub rfl z2 (rws 0) u2 hq4 hls'⟩
          have := g4 (by omega)
          exact .sl H.n 0 4 (n + 1) (n + 1) o4 cap4 q4' (upd_same _ _ _) (Nat.le_refl _) g2 (fun h => by omega) (fun _ => this) g5 g6
        · obtain ⟨k, rfl⟩ : ∃ k, cap' = k + (n + 1) := ⟨cap' - (n + 1), by omega⟩
          obtain ⟨H2, u1, u2, u3⟩ := see_some (ro k)
          have hls2 : LR (rhoI ρ (some ⟨p.blk, o', p.sz⟩) (some ⟨pv.blk, pv.off + vo, pv.sz⟩)) [.slice (some ⟨2, 0, some 5⟩) n (k + (n + 1)), J ii, .slice (some ⟨3, 0, some 5⟩) 1 1] [.slice (some ⟨p.blk, o', none⟩) n (k + (n + 1)), J ii, .slice (some ⟨pv.blk, pv.off + vo, none⟩) 1 1] :=
            .cons (.sl 2 0 5 n _ o' _ ⟨p.blk, o', p.sz⟩ rfl (by omega) (Nat.le_refl _) (fun _ => rfl) (fun _ => rfl) (Nat.le_refl _) (fun h => by omega)) (.cons (.int _ _) (.one (vr3 _)))
          refine (callA_sound (envT_ok extI) xOk_I 60 91 _ _ w _ _ _ H2 (start 2 (by omega)) hls2 u1).mono fun z w' hz => ?_
          obtain ⟨ρ2, z1, z2⟩ := hz
          have h2 : ρ2 2 = some ⟨p.blk, o', p.sz⟩ := z2.ag 2 (show 2 < 4 by omega)
          cases z1 with
          | sl _ _ _ _ _ o4 cap4 q4' hq4 g1 g2 g3 g4 g5 g6 =>
          rw [h2] at hq4; cases hq4
          refine ⟨_, ?_, ins_fin (P := Tryz.prog) hH hsub rfl z2 (rws 2) u2 h2 hls'⟩
          have h4 := g4 (by omega)
          have h3 := g3 rfl
          exact .sl H.n 0 4 (n + 1) (n + 1) o4 cap4 ⟨p.blk, o', p.sz⟩ (upd_same _ _ _) (Nat.le_refl _) (by omega) (fun h => by omega) (fun _ => h4) g5 (fun _ => by
            have h4 : o4 = o' + 0 := h4
            show o4 + cap4 * 2 ≤ p.sz
            omega)
      split at hg
      · -- none
        split at hg
        · rename_i hi
          rw [Bool.and_eq_true, ltI_eq, leI_eq, decide_eq_true_eq, decide_eq_true_eq] at hi
          have : i = 0 := by omega
          subst this
          cases hg
          cases k1
          obtain ⟨H2, u1, u2, u3⟩ := see_some (run0 x y)
          have start : HR (rhoI ρ none (some ⟨pv.blk, pv.off + vo, pv.sz⟩)) (Tryz.prog.globals.size + 1) (HI none (rowI [J x, J y] 0)) w :=
            ins_start hH (p2 := ⟨0, 0, 0⟩) (p3 := ⟨pv.blk, pv.off + vo, pv.sz⟩) (l2 := []) (s2 := 0) (cs2 := #[]) (e2 := 0) (fz2 := (0, 0)) false (fun h => by cases h) rfl v1 v2 (by simpa using v4) (fun j hj => v5 j (by simpa using hj)) v6 rfl
          have hls2 : LR (rhoI ρ none (some ⟨pv.blk, pv.off + vo, pv.sz⟩)) [.slice none 0 0, J 0, .slice (some ⟨3, 0, some 5⟩) 1 1] [.slice none 0 0, J 0, .slice (some ⟨pv.blk, pv.off + vo, none⟩) 1 1] :=
            .cons .sl0 (.cons (.int _ _) (.one (vr3 _)))
          refine (callA_sound (envT_ok extI) xOk_I 60 91 _ _ w _ _ _ H2 start hls2 u1).mono fun z w' hz => ?_
          obtain ⟨ρ2, z1, z2⟩ := hz
          cases z1 with
          | sl _ _ _ _ _ o4 cap4 q4' hq4 g1 g2 g3 g4 g5 g6 =>
          have hsub : ∀ id o0, ((H.put vb none).put vb none).get id = some o0 → H.get id = some o0 := fun id o0 h => by
            rw [Hp.get_put] at h
            split at h
            · cases h
            · rw [Hp.get_put] at h
              split at h
              · cases h
              · exact h
          refine ⟨_, ?_, ins_fin (P := Tryz.prog) hH hsub rfl z2 (fun id o0 p0 h1 h2 => ?_) u2 hq4 rfl⟩
          · have := g4 (by omega)
            exact .sl H.n 0 4 1 1 o4 cap4 q4' (upd_same _ _ _) (Nat.le_refl _) g2 (fun h => by omega) (fun _ => this) g5 g6
          · have gt : (HI none (rowI [J x, J y] 0)).get id = if id = 3 then rowI [J x, J y] 0 else if id = 2 then none else none := by
              show (Tr.put (Tr.put .nil 2 _) 3 _).get id = _
              rw [Tr.get_put, Tr.get_put, Tr.get_nil]
            rw [gt] at h1
            by_cases e1 : id = 3
            · subst e1
              have h2 : some (⟨pv.blk, pv.off + vo, pv.sz⟩ : Pl) = some p0 := h2
              cases h2
              exact ⟨vb, _, pv, hgv, rfl, hpv, rfl, by rw [Hp.get_put, if_pos rfl]⟩
            · rw [if_neg e1] at h1
              split at h1 <;> cases h1
        · cases hg
      · split at hg
        · rename_i b o cp _ _ _ _ c0 s0 a c hbb hgb hrb hi
          rw [Bool.and_eq_true, ltI_eq, leI_eq, decide_eq_true_eq, decide_eq_true_eq] at hi
          have : i = 0 := by omega
          subst this
          cases hg
          exact two b o 1 cp [J a, J c] [J x, J y, J a, J c] 0 (by omega) rfl rfl rfl (fun e => by subst e; simp at hbb) _ _ hgb hrb k1 (run1x x y a c) (fun k => run1o x y a c k)
        · cases hg
      · split at hg
        · rename_i b o cp _ _ _ _ c0 s0 a c d e hbb hgb hrb hi
          rw [Bool.and_eq_true, ltI_eq, leI_eq, decide_eq_true_eq, decide_eq_true_eq] at hi
          have : i = 1 := by omega
          subst this
          cases hg
          exact two b o 2 cp [J a, J c, J d, J e] [J a, J c, J x, J y, J d, J e] 1 (by omega) rfl rfl rfl (fun e => by subst e; simp at hbb) _ _ hgb hrb k1 (run2x x y a c d e) (fun k => run2o x y a c d e k)
        · cases hg
      · cases hg
    · cases hg
  · cases hg

end Go.Proofs.YtaegmplbkbaniaaGreatDoor
