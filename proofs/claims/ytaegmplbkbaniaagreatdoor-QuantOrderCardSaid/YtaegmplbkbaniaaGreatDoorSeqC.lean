/-
  slices.AppendSeq(nil, slices.Values(s)) as a function that is given to the machine. No condition.
-/
import Derived.Test.YtaegmplbkbaniaaGreatDoorSeqB
import Derived.Test.YtaegmplbkbaniaaGreatDoorExtC
set_option linter.all false
namespace Go.Proofs.YtaegmplbkbaniaaGreatDoor
open Go Go.RowKit
set_option maxRecDepth 100000
def intsOf : List Value → Option (List Int)
  | [] => some []
  | .int .i64 n :: r => match intsOf r with
    | some l => some (n :: l)
    | none => none
  | _ => none
theorem intsOf_spec : ∀ {l : List Value} {zs : List Int}, intsOf l = some zs → l = zs.map vzI
  | [], zs, h => by simp only [intsOf] at h; cases h; rfl
  | v :: r, zs, h => by
    unfold intsOf at h
    split at h
    · rename_i he; cases he
    · rename_i n r' he
      cases he
      split at h
      · rename_i l hl
        cases h
        rw [intsOf_spec hl]; rfl
      · cases h
    · cases h
theorem vzI_scal (zs : List Int) : (zs.map vzI).all scal = true := List.all_eq_true.2 fun v hv => by
  obtain ⟨x, _, rfl⟩ := List.mem_map.1 hv; rfl
def g121 : GF := fun args H => match args with
  | [.slice none _ _, .func (.func 97) fs cs] => match fs.toList, cs.toList with
    | [], [.pointer (some ⟨pb, po, none⟩)] => match H.rd pb po 1 with
      | some [.slice (some ⟨b, o, some _⟩) (n + 1) _] => match H.rd b o (n + 1) with
        | some l => match intsOf l, Nat.ble (n + 1) 65536 with
          | some _, true => some (.slice (some ⟨H.n, 0, some 2⟩) (n + 1) (n + 1), H.alloc (.row (.lst l) 0 true))
          | _, _ => none
        | none => none
      | _ => none
    | _, _ => none
  | _ => none
theorem ok121 : FnOk Tryz.prog g121 121 := by
  intro ρ H w args args' v H' hH hl hg
  unfold g121 at hg
  split at hg
  · rename_i fs cs
    obtain ⟨y, r, e, k1, k2⟩ := hl.inv
    obtain ⟨z, r2, e2, k3, k4⟩ := k2.inv
    have := k4.inv0; subst this; subst e2; subst e
    cases k1
    cases k3 with
    | func _ _ _ f' c' hf hc h1 h2 =>
    split at hg
    · rename_i pb po hfs hcs
      have hf0 : f' = #[] := by
        apply Array.eq_empty_of_size_eq_zero
        rw [← hf]
        have : fs.toList.length = 0 := by rw [hfs]; rfl
        simpa using this
      have hcl := LR.arr hc h2
      rw [hcs] at hcl
      obtain ⟨u, r3, e3, k5, k6⟩ := hcl.inv
      have := k6.inv0; subst this
      have hc0 : c' = #[u] := by apply Array.toList_inj.1; rw [e3]
      subst hf0; subst hc0
      split at hg
      · rename_i b o sp n cp hrd
        split at hg
        · rename_i l hrl
          split at hg
          · rename_i zs hz hle
            cases hg
            cases k5 with
            | ptr _ _ p hp =>
            obtain ⟨p', v', g1, g2, g3⟩ := cell_rd hH hrd
            rw [hp] at g1; cases g1
            cases g2 with
            | sl _ _ _ _ _ o' cap' q hq hlc hcc he ho hlo hhi =>
            obtain ⟨q', l', m1, m2, m3, m4⟩ := hH.rd hrl
            rw [hq] at m1; cases m1
            have hl := intsOf_spec hz
            have hll : l' = l := lr_ofScal (by rw [hl]; exact vzI_scal zs) m2
            subst hll
            have hzl : zs.length = n + 1 := by have := m3; rw [hl] at this; simpa using this
            have hlt : ∀ {a : Addr} {x : Value}, w.cell? a = some x → a.block < w.heap.size := fun {a x} h => by
              rcases Nat.lt_or_ge a.block w.heap.size with h' | h'
              · exact h'
              · simp [World.cell?, Array.getElem?_eq_none h'] at h
            have ho' := ho (by omega)
            have hcells : ∀ j, j < zs.length → w.cell? ⟨q.blk, o' + j, none⟩ = some (.int .i64 (zs[j]?.getD 0)) := fun j hj => by
              have := m4 j (by omega)
              rw [ho', Nat.add_assoc, this, hl, List.getElem?_map, List.getElem?_eq_getElem hj]; rfl
            have hle : n + 1 ≤ 65536 := Nat.le_of_ble_eq_true hle
            have hml : zs.length ≤ maxLen := by
              have : (65536 : Nat) ≤ maxLen := by decide
              omega
            have hcall := (callsIn_wide (n := 5)).1 (Vz.appendSeq_in Fence.wide 5 trivial trivial rfl (by omega) p.blk (p.off + po) q.blk o' cap' zs hml (by omega) w (by rw [hzl]; exact g3) hcells (hlt (hcells 0 (by omega))) (hlt g3))
            have hent : (callFunc 121 (#[.slice none 0 0, .func (.func 97) #[] #[.pointer (some ⟨p.blk, p.off + po, none⟩)]])).run Tryz.prog w = .ok (.enter 121 #[.slice none 0 0, .func (.func 97) #[] #[.pointer (some ⟨p.blk, p.off + po, none⟩)]]) w :=
              enters_of Tryz.func121 (by kernel_rfl) rfl _ _
            refine lands_eq hent ?_
            simp only [Lands]
            refine hcall.mono ?_
            rintro e w' ⟨v2, rfl, hrow, hnil, hB⟩
            rcases hrow.2 with ⟨rfl, h0⟩ | ⟨g, cap2, cur, rfl, hg1, hg2, hg3, hg4, hg5, hg6⟩
            · omega
            · rw [hzl] at hg3 hg6
              have keep : ∀ k, k < w.heap.size → w'.heap[k]? = w.heap[k]? := hB.block
              have hH' : HR ρ (Tryz.prog.globals.size + 1) H w' := ⟨hH.lt, hH.st, fun id c s rw h => by
                  obtain ⟨p, cs, e, fz, q1, q2, q3⟩ := hH.row id c s rw h
                  exact ⟨p, cs, e, fz, q1, by rw [keep _ (Array.getElem?_eq_some_iff.1 q2).1]; exact q2, q3⟩, fun id es h => by
                  obtain ⟨p, en, clk, q1, q2, q3⟩ := hH.map id es h
                  exact ⟨p, en, clk, q1, by rw [keep _ (Array.getElem?_eq_some_iff.1 q2).1]; exact q2, q3⟩, hH.sep⟩
              have hid : ρ H.n = none := hH.fresh (Nat.le_refl _)
              have hadd : HR (upd ρ H.n ⟨g, 0, cur.size⟩) (Tryz.prog.globals.size + 1) (H.alloc (.row (.lst l') 0 true)) w' := by
                rw [Hp.alloc_eq]
                refine HR.add (PR.reserve hH' 1).hr hid (by simp [Hp.reserve]) (fun id o q h1 h2 => ?_) ⟨cur, 3, (0, 0), hg2, rfl, ?_, fun j hj => ?_, fun _ => rfl⟩
                · have := hH.size h1 h2
                  show q.blk ≠ g
                  omega
                · simp only [Cl.len, Nat.zero_add, Nat.add_zero, m3, hg5]; omega
                · have hj : j < l'.length := hj
                  refine ⟨l'[j], l'[j], List.getElem?_eq_getElem hj, ?_, ?_⟩
                  · have : (cur.toList.take ((n + 1) * 1))[j]? = (zs.map vzI)[j]? := by rw [hg6]
                    rw [← hl, List.getElem?_take, if_pos (by omega), List.getElem?_eq_getElem hj] at this
                    simpa using this
                  · exact vr_scal (List.all_eq_true.1 (by rw [hl]; exact vzI_scal zs) _ (List.getElem_mem hj))
              refine ⟨_, ?_, ⟨hadd, by simp [Hp.alloc], fun id hi => upd_ne _ _ (by omega), ⟨hB.os, hB.tape, hB.output, hB.size, fun k hk _ => keep k hk⟩, fun id o q h1 h2 => ?_⟩⟩
              · rw [hzl]
                exact .sl H.n 0 2 (n + 1) (n + 1) 0 cap2 ⟨g, 0, cur.size⟩ (upd_same _ _ _) (Nat.le_refl _) hg3 (fun h => by omega) (fun _ => rfl) (Nat.le_refl _) (fun _ => by simp [hg5])
              · rw [Hp.get_alloc] at h1
                by_cases e : id = H.n
                · subst e; rw [upd_same] at h2; cases h2; exact .inl hg1
                · rw [if_neg e] at h1; rw [upd_ne _ _ e] at h2; exact .inr ⟨id, o, q, h1, h2, fun x => x, rfl⟩
          · cases hg
        · cases hg
      · cases hg
    · cases hg
  · cases hg

end Go.Proofs.YtaegmplbkbaniaaGreatDoor
