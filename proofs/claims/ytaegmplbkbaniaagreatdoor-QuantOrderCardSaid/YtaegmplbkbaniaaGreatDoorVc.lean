/-
  THE ABSTRACT MACHINE, reasoned about by rewriting: one law an operation. No condition.
-/
import Derived.Test.YtaegmplbkbaniaaGreatDoorAbs
import Derived.Test.YtaegmplbkbaniaaGreatDoorEnv
set_option linter.all false
namespace Go.Proofs.YtaegmplbkbaniaaGreatDoor
open Go
/-- An answer handed on. -/
def oQ (o : Option Value) (H : Hp) (Q : Value → Hp → Prop) : Prop := match o with
  | some v => Q v H
  | none => False
def oP (o : Option (Value × Hp)) (Q : Value → Hp → Prop) : Prop := match o with
  | some q => Q q.1 q.2
  | none => False
def oA (o : Option (AObj × (Nat → Value))) (H : Hp) (Q : Value → Hp → Prop) : Prop := match o with
  | some q => Q (q.2 H.n) (H.alloc q.1)
  | none => False
def oC (E : Env) (o : Option (FuncId × List Value)) (H : Hp) (Q : Value → Hp → Prop) : Prop := match o with
  | some q => WF E q.1 q.2 H Q
  | none => False
def oB (b : Bool) (P Q : Prop) : Prop := match b with
  | true => P
  | false => Q
@[congr] theorem oQ_congr {o o' : Option Value} {H H' : Hp} {Q : Value → Hp → Prop} (h : o = o') (h2 : H = H') : oQ o H Q = oQ o' H' Q := by rw [h, h2]
@[congr] theorem oP_congr {o o' : Option (Value × Hp)} {Q : Value → Hp → Prop} (h : o = o') : oP o Q = oP o' Q := by rw [h]
@[congr] theorem oA_congr {o o' : Option (AObj × (Nat → Value))} {H H' : Hp} {Q : Value → Hp → Prop} (h : o = o') (h2 : H = H') : oA o H Q = oA o' H' Q := by rw [h, h2]
@[congr] theorem oC_congr {E : Env} {o o' : Option (FuncId × List Value)} {H H' : Hp} {Q : Value → Hp → Prop} (h : o = o') (h2 : H = H') : oC E o H Q = oC E o' H' Q := by rw [h, h2]
@[congr] theorem oB_congr {b b' : Bool} {P Q : Prop} (h : b = b') : oB b P Q = oB b' P Q := by rw [h]
@[congr] theorem WF_congr {E : Env} {f : FuncId} {l l' : List Value} {H H' : Hp} {Q : Value → Hp → Prop} (h : l = l') (h2 : H = H') : WF E f l H Q = WF E f l' H' Q := by rw [h, h2]
@[congr] theorem WC_congr {E : Env} {c : Ac} {t t' : Tr Value} {H H' : Hp} {Q : Ax → Tr Value → Hp → Prop} (h : t = t') (h2 : H = H') : WC E c t H Q = WC E c t' H' Q := by rw [h, h2]
theorem oQ_some (v : Value) (H : Hp) (Q : Value → Hp → Prop) : oQ (some v) H Q = Q v H := rfl
theorem oP_some (v : Value) (H : Hp) (Q : Value → Hp → Prop) : oP (some (v, H)) Q = Q v H := rfl
theorem oA_some (o : AObj) (f : Nat → Value) (H : Hp) (Q : Value → Hp → Prop) : oA (some (o, f)) H Q = Q (f H.n) (H.alloc o) := rfl
theorem oC_some (E : Env) (f : FuncId) (l : List Value) (H : Hp) (Q : Value → Hp → Prop) : oC E (some (f, l)) H Q = WF E f l H Q := rfl
theorem oB_true (P Q : Prop) : oB true P Q = P := rfl
theorem oB_false (P Q : Prop) : oB false P Q = Q := rfl

section
variable {E : Env} {t : Tr Value} {H : Hp} {Q : Value → Hp → Prop} {K : Tr Value → Hp → Prop} {r : List Lo}
theorem VO_nil : VO E [] t H K = K t H := rfl
/-- What lies behind an operation. -/
def nx (E : Env) (d : Option Nat) (r : List Lo) (t : Tr Value) (K : Tr Value → Hp → Prop) : Value → Hp → Prop := fun v H' => VO E r (putD t d v) H' K
theorem VO_go (d : Option Nat) (o : Ai) : VO E (⟨d, o, none⟩ :: r) t H K = V1 E o t H (nx E d r t K) := rfl
def gO (b : Bool) (E : Env) (o : Ai) (d : Option Nat) (r : List Lo) (t : Tr Value) (H : Hp) (K : Tr Value → Hp → Prop) : Prop := oB b (V1 E o t H (nx E d r t K)) (VO E r (putD t d undef) H K)
@[congr] theorem gO_congr {b b' : Bool} {o : Ai} {d : Option Nat} (h : b = b') : gO b E o d r t H K = gO b' E o d r t H K := by rw [h]
theorem gO_true (o : Ai) (d : Option Nat) : gO true E o d r t H K = V1 E o t H (nx E d r t K) := rfl
theorem gO_false (o : Ai) (d : Option Nat) : gO false E o d r t H K = VO E r (putD t d undef) H K := rfl
theorem VO_if (d : Option Nat) (o : Ai) (n : Nat) (b : Bool) : VO E (⟨d, o, some (n, b)⟩ :: r) t H K = gO (wants (some (n, b)) t) E o d r t H K := by
  show (match wants (some (n, b)) t with | true => _ | false => _) = _
  cases wants (some (n, b)) t <;> rfl
theorem nx_some (d : Nat) (v : Value) : nx E (some d) r t K v H = VO E r (t.put d (some v)) H K := rfl
theorem nx_none (v : Value) : nx E none r t K v H = VO E r t H K := rfl
theorem putD_some (d : Nat) (v : Value) : putD t (some d) v = t.put d (some v) := rfl
theorem putD_none (v : Value) : putD t none v = t := rfl
def gV (b : Bool) : Value → Bool
  | .bool c => c == b
  | _ => false
theorem gV_t (c : Bool) : gV true (.bool c) = c := by cases c <;> rfl
theorem gV_f (c : Bool) : gV false (.bool c) = !c := by cases c <;> rfl
theorem wants_ev (n : Nat) (b : Bool) : wants (some (n, b)) t = gV b (Od.ev t (.t n)) := by
  show (match t.get n with | some (.bool c) => c == b | _ => false) = gV b (match t.get n with | some v => v | none => undef)
  cases t.get n with
  | none => rfl
  | some v => cases v <;> rfl
theorem ev_c (v : Value) : Od.ev t (.c v) = v := rfl
theorem ev_f (n : Nat) : Od.ev t (.f n) = .func (.func n) #[] #[] := rfl
theorem ev_g (n : Nat) : Od.ev t (.g n) = .pointer (some ⟨n, 0, none⟩) := rfl
theorem evPut (n m : Nat) (v : Value) : Od.ev (t.put n (some v)) (.t m) = if m = n then v else Od.ev t (.t m) := by
  show (match (t.put n (some v)).get m with | some v => v | none => undef) = if m = n then v else (match t.get m with | some v => v | none => undef)
  rw [Tr.get_put]
  by_cases h : m = n
  · rw [if_pos h, if_pos h]
  · rw [if_neg h, if_neg h]
theorem ev_nil (m : Nat) : Od.ev (.nil : Tr Value) (.t m) = undef := by
  show (match (.nil : Tr Value).get m with | some v => v | none => undef) = undef
  rw [Tr.get_nil]
theorem isC_t (n : Nat) : (Od.t n).isC = false := rfl
theorem isC_c (v : Value) : (Od.c v).isC = true := rfl
theorem isC_f (n : Nat) : (Od.f n).isC = false := rfl
theorem isC_g (n : Nat) : (Od.g n).isC = false := rfl
/-! each operation -/
theorem P_mv (x : Od) : pureA E t (.mv x) = some (x.ev t) := rfl
theorem V_p (o : Pi) : V1 E (.p o) t H Q = oQ (pureA E t o) H Q := rfl
theorem V_r (o : Ri) : V1 E (.r o) t H Q = oQ (readA E t H o) H Q := rfl
theorem V_a (o : Li) : V1 E (.a o) t H Q = oA (allocA E t o) H Q := rfl
theorem V_e (o : Ei) : V1 E (.e o) t H Q = oP (effA E t H o) Q := rfl
theorem V_call (f : Od) (l : List Od) : V1 E (.call f l) t H Q = oC E (calleeA t f l) H Q := rfl
theorem V_inv (x : Od) (m : String) (l : List Od) : V1 E (.inv x m l) t H Q = oC E (invokeA E t x m l) H Q := rfl
/-! pure ones -/
def pickV (c a b : Value) : Option Value := match c with
  | .bool true => some a
  | .bool false => some b
  | _ => none
theorem P_pick (c a b : Od) : pureA E t (.pick c a b) = pickV (c.ev t) (a.ev t) (b.ev t) := by
  show (match c.ev t with | .bool true => some (a.ev t) | .bool false => some (b.ev t) | _ => none) = _
  unfold pickV
  cases c.ev t <;> try rfl
theorem pickV_true (a b : Value) : pickV (.bool true) a b = some a := rfl
theorem pickV_false (a b : Value) : pickV (.bool false) a b = some b := rfl
theorem P_bin (op : BinOp) (T : TypeId) (x y : Od) : pureA E t (.bin op T x y) = binA E op T (x.isC || y.isC) (x.ev t) (y.ev t) := rfl
theorem P_un (op : UnOp) (x : Od) : pureA E t (.un op x) = unA op (x.ev t) := rfl
def cnvV (k : IntKind) : Value → Option Value
  | .int _ n => some (.int k (k.wrap n))
  | _ => none
theorem P_cnv (k : IntKind) (x : Od) : pureA E t (.cnv k x) = cnvV k (x.ev t) := rfl
theorem cnvV_int (k j : IntKind) (n : Int) : cnvV k (.int j n) = some (.int k (k.wrap n)) := rfl
theorem P_mkif (T : TypeId) (x : Od) : pureA E t (.mkif T x) = some (.iface T (x.ev t)) := rfl
theorem P_mkfn (f : FuncId) (a b : List Od) : pureA E t (.mkfn f a b) = some (.func (.func f) ⟨a.map (Od.ev t)⟩ ⟨b.map (Od.ev t)⟩) := rfl
theorem P_fadr (T : TypeId) (x : Od) (i : Nat) : pureA E t (.fadr T x i) = fadrA E T i (x.ev t) := rfl
theorem P_fld (T : TypeId) (x : Od) (i : Nat) : pureA E t (.fld T x i) = fldA E T i (x.ev t) := rfl
theorem P_iadr (T : TypeId) (x i : Od) : pureA E t (.iadr T x i) = iadrA E T (x.ev t) (i.ev t) := rfl
theorem P_idx (T : TypeId) (x i : Od) : pureA E t (.idx T x i) = idxA E T (x.ev t) (i.ev t) := rfl
def lenV (E : Env) (T : TypeId) (v : Value) : Option Value := match E.ty T, v with
  | some { k := .str, .. }, .string s => some (.int .i64 s.size)
  | some { k := .slc _, .. }, .slice _ n _ => some (.int .i64 n)
  | _, _ => none
theorem P_len (T : TypeId) (x : Od) : pureA E t (.len T x) = lenV E T (x.ev t) := rfl
def foldV (f : Value → Value → Option Value) : List Value → Option Value
  | [] => none
  | a :: r => foldO f a r
theorem P_mn (xs : List Od) : pureA E t (.mn xs) = foldV mn2 (xs.map (Od.ev t)) := by
  show (match xs.map (Od.ev t) with | [] => none | a :: r => foldO mn2 a r) = _
  cases xs.map (Od.ev t) <;> rfl
theorem P_mx (xs : List Od) : pureA E t (.mx xs) = foldV mx2 (xs.map (Od.ev t)) := by
  show (match xs.map (Od.ev t) with | [] => none | a :: r => foldO mx2 a r) = _
  cases xs.map (Od.ev t) <;> rfl
theorem foldV_two (f : Value → Value → Option Value) (a b : Value) : foldV f [a, b] = f a b := by
  show (match f a b with | some c => some c | none => none) = _
  cases f a b <;> rfl
theorem mn2_int (k k' : IntKind) (x y : Int) : mn2 (.int k x) (.int k' y) = some (.int k (min x y)) := by
  simp only [mn2, Option.some.injEq, Value.int.injEq, true_and]
  split <;> omega
theorem mx2_int (k k' : IntKind) (x y : Int) : mx2 (.int k x) (.int k' y) = some (.int k (max x y)) := by
  simp only [mx2, Option.some.injEq, Value.int.injEq, true_and]
  split <;> omega
theorem unA_not (b : Bool) : unA .not (.bool b) = some (.bool !b) := rfl
theorem unA_neg (k : IntKind) (n : Int) : unA .neg (.int k n) = some (.int k (k.wrap (0 - n))) := rfl
variable (T : TypeId) (c : Bool) (k : IntKind) (a b : Int)
theorem beqD : (a == b) = decide (a = b) := by rw [Bool.eq_iff_iff]; simp
theorem B_add : binA E .add T c (.int k a) (.int k b) = some (.int k (k.wrap (a + b))) := by simp [binA, intBin]
theorem B_sub : binA E .sub T c (.int k a) (.int k b) = some (.int k (k.wrap (a - b))) := by simp [binA, intBin]
theorem B_mul : binA E .mul T c (.int k a) (.int k b) = some (.int k (k.wrap (a * b))) := by simp [binA, intBin]
theorem B_quo : binA E .quo T c (.int k a) (.int k b) = if b = 0 then none else some (.int k (k.wrap (a.tdiv b))) := by simp [binA, intBin]
theorem B_rem : binA E .rem T c (.int k a) (.int k b) = if b = 0 then none else some (.int k (a.tmod b)) := by simp [binA, intBin]
theorem B_eql : binA E .eql T c (.int k a) (.int k b) = some (.bool (decide (a = b))) := by simp [binA, intBin, beqD]
theorem B_neq : binA E .neq T c (.int k a) (.int k b) = some (.bool (!decide (a = b))) := by simp [binA, intBin, bne, beqD]
theorem B_lss : binA E .lss T c (.int k a) (.int k b) = some (.bool (decide (a < b))) := by simp [binA, intBin, ltI_eq]
theorem B_leq : binA E .leq T c (.int k a) (.int k b) = some (.bool (decide (a ≤ b))) := by simp [binA, intBin, leI_eq]
theorem B_gtr : binA E .gtr T c (.int k a) (.int k b) = some (.bool (decide (b < a))) := by simp [binA, intBin, ltI_eq]
theorem B_geq : binA E .geq T c (.int k a) (.int k b) = some (.bool (decide (b ≤ a))) := by simp [binA, intBin, leI_eq]
/-- Comparisons of other things. -/
theorem B_eqv (x y : Value) (hx : ∀ k n, x ≠ .int k n) (hs : ∀ s, x ≠ .string s) : binA E .eql T c x y = match E.ty T with
    | none => none
    | some ti => (eqA E ti.k c x y).map .bool := by
  cases x <;> first
    | rfl
    | exact absurd rfl (hx _ _)
    | exact absurd rfl (hs _)
theorem B_nev (x y : Value) (hx : ∀ k n, x ≠ .int k n) (hs : ∀ s, x ≠ .string s) : binA E .neq T c x y = match E.ty T with
    | none => none
    | some ti => (eqA E ti.k c x y).map fun b => .bool !b := by
  cases x <;> first
    | rfl
    | exact absurd rfl (hx _ _)
    | exact absurd rfl (hs _)
end
end Go.Proofs.YtaegmplbkbaniaaGreatDoor
