/-
  THE ABSTRACT MACHINE, its definitions: a deterministic, executable reading of the loaded code over a light heap. No condition: nothing is proved here but the laws of its tries and of what forces a value. (The machine's own words; the link to the model stands in AmSound.)
-/
import Derived.Orders
import Derived.Below
import Derived.KernelRfl
set_option linter.all false
namespace Go.Proofs.YtaegmplbkbaniaaGreatDoor
open Go

/-! ### Tries -/
inductive Tr (α : Type) where
  | nil : Tr α
  | node (v : Option α) (l r : Tr α) : Tr α

namespace Tr
variable {α β : Type}
def getF : Nat → Tr α → Nat → Option α
  | 0, _, _ => none
  | _ + 1, .nil, _ => none
  | _ + 1, .node v _ _, 0 => v
  | f + 1, .node _ l r, k + 1 => match Nat.mod k 2 with
    | 0 => getF f l (Nat.div k 2)
    | _ + 1 => getF f r (Nat.div k 2)
def get (t : Tr α) (i : Nat) : Option α := getF (i + 1) t i
def putK : Nat → Tr α → Nat → Option α → (Tr α → β) → β
  | 0, t, _, _, k => k t
  | _ + 1, .nil, 0, x, k => k (.node x .nil .nil)
  | f + 1, .nil, j + 1, x, k => match Nat.mod j 2 with
    | 0 => putK f .nil (Nat.div j 2) x fun l => k (.node none l .nil)
    | _ + 1 => putK f .nil (Nat.div j 2) x fun r => k (.node none .nil r)
  | _ + 1, .node _ l r, 0, x, k => k (.node x l r)
  | f + 1, .node v l r, j + 1, x, k => match Nat.mod j 2 with
    | 0 => putK f l (Nat.div j 2) x fun l' => k (.node v l' r)
    | _ + 1 => putK f r (Nat.div j 2) x fun r' => k (.node v l r')
def put (t : Tr α) (i : Nat) (x : Option α) : Tr α := putK (i + 1) t i x id

theorem putK_eq (f : Nat) : ∀ (γ : Type) (t : Tr α) (i : Nat) (x : Option α) (k : Tr α → γ), putK f t i x k = k (putK f t i x id) := by
  induction f with
  | zero => intro γ t i x k; rfl
  | succ f ih =>
    intro γ t i x k
    cases t <;> cases i <;> simp only [putK, id]
    all_goals
      split
      · rw [ih, ih (Tr α) _ _ _ (fun l => Tr.node _ l _)]
      · rw [ih, ih (Tr α) _ _ _ (fun r => Tr.node _ _ r)]

theorem getF_nil (f i : Nat) : getF f (.nil : Tr α) i = none := by cases f <;> rfl
theorem getF_node (f i : Nat) (v : Option α) (l r : Tr α) : getF (f + 1) (.node v l r) (i + 1) = if i % 2 = 0 then getF f l (i / 2) else getF f r (i / 2) := by
  show (match i % 2 with | 0 => getF f l (i / 2) | _ + 1 => getF f r (i / 2)) = _
  split
  · rename_i h; rw [if_pos h]
  · rename_i h; rw [if_neg (by omega)]
theorem putF_nil (f i : Nat) (x : Option α) : putK (f + 1) (.nil : Tr α) (i + 1) x id = if i % 2 = 0 then .node none (putK f .nil (i / 2) x id) .nil else .node none .nil (putK f .nil (i / 2) x id) := by
  show (match i % 2 with | 0 => putK f .nil (i / 2) x (fun l => id (Tr.node none l .nil)) | _ + 1 => putK f .nil (i / 2) x (fun r => id (Tr.node none .nil r))) = _
  split
  · rename_i h; rw [if_pos h, putK_eq]; rfl
  · rename_i h; rw [if_neg (by omega), putK_eq]; rfl
theorem putF_node (f i : Nat) (v : Option α) (l r : Tr α) (x : Option α) : putK (f + 1) (.node v l r) (i + 1) x id = if i % 2 = 0 then .node v (putK f l (i / 2) x id) r else .node v l (putK f r (i / 2) x id) := by
  show (match i % 2 with | 0 => putK f l (i / 2) x (fun l' => id (Tr.node v l' r)) | _ + 1 => putK f r (i / 2) x (fun r' => id (Tr.node v l r'))) = _
  split
  · rename_i h; rw [if_pos h, putK_eq]; rfl
  · rename_i h; rw [if_neg (by omega), putK_eq]; rfl

theorem getF_putF (f : Nat) : ∀ (g : Nat) (t : Tr α) (i j : Nat) (x : Option α), i < f → j < g →
    getF g (putK f t i x id) j = if j = i then x else getF g t j := by
  induction f with
  | zero => intro g t i j x hi; omega
  | succ f ih =>
    intro g t i j x hi hj
    obtain ⟨g, rfl⟩ : ∃ m, g = m + 1 := ⟨g - 1, by omega⟩
    cases i with
    | zero =>
      cases j with
      | zero => cases t <;> simp [putK, getF]
      | succ j => cases t <;> simp [putK, getF_node, getF_nil]
    | succ i =>
      have key : ∀ (t' : Tr α) (j' : Nat), j' < g → getF g (putK f t' (i / 2) x id) j' = if j' = i / 2 then x else getF g t' j' :=
        fun t' j' h => ih g t' _ _ x (by omega) h
      cases t with
      | nil =>
        rw [putF_nil]
        cases j with
        | zero => split <;> simp [getF]
        | succ j =>
          have k2 := key .nil (j / 2) (by omega)
          split
          · rename_i h
            simp only [getF_node, k2, getF_nil]
            have : (j / 2 = i / 2 ∧ j % 2 = 0) ↔ (j + 1 = i + 1) := by omega
            by_cases hj2 : j % 2 = 0 <;> simp_all
          · rename_i h
            simp only [getF_node, k2, getF_nil]
            have : (j / 2 = i / 2 ∧ ¬ j % 2 = 0) ↔ (j + 1 = i + 1) := by omega
            by_cases hj2 : j % 2 = 0 <;> simp_all
      | node v l r =>
        rw [putF_node]
        cases j with
        | zero => split <;> simp [getF]
        | succ j =>
          have kl := key l (j / 2) (by omega)
          have kr := key r (j / 2) (by omega)
          split
          · rename_i h
            rw [getF_node, getF_node, kl]
            by_cases hj2 : j % 2 = 0
            · have : (j / 2 = i / 2) ↔ (j + 1 = i + 1) := by omega
              simp [hj2, this]
            · rw [if_neg hj2, if_neg hj2, if_neg (by omega)]
          · rename_i h
            rw [getF_node, getF_node, kr]
            by_cases hj2 : j % 2 = 0
            · rw [if_pos hj2, if_pos hj2, if_neg (by omega)]
            · have : (j / 2 = i / 2) ↔ (j + 1 = i + 1) := by omega
              simp [hj2, this]

theorem get_put (t : Tr α) (i j : Nat) (x : Option α) : (t.put i x).get j = if j = i then x else t.get j :=
  getF_putF _ _ _ _ _ _ (by omega) (by omega)
theorem get_put_same (t : Tr α) (i : Nat) (x : Option α) : (t.put i x).get i = x := by rw [get_put, if_pos rfl]
theorem get_put_ne (t : Tr α) {i j : Nat} (x : Option α) (h : j ≠ i) : (t.put i x).get j = t.get j := by rw [get_put, if_neg h]
theorem get_nil (i : Nat) : (Tr.nil : Tr α).get i = none := getF_nil _ _
end Tr

def Tr.allT {α : Type} (p : α → Bool) : Tr α → Bool
  | .nil => true
  | .node none l r => allT p l && allT p r
  | .node (some v) l r => p v && (allT p l && allT p r)
theorem Tr.allT_getF {α : Type} (p : α → Bool) : ∀ (f : Nat) (t : Tr α) (i : Nat) (v : α), t.allT p = true → Tr.getF f t i = some v → p v = true := by
  intro f
  induction f with
  | zero => intro t i v _ h; cases h
  | succ f ih =>
    intro t i v ha h
    cases t with
    | nil => cases h
    | node u l r =>
      have hl : l.allT p = true ∧ r.allT p = true ∧ ∀ x, u = some x → p x = true := by
        cases u with
        | none => simp only [Tr.allT, Bool.and_eq_true] at ha; exact ⟨ha.1, ha.2, fun x h => by cases h⟩
        | some y => simp only [Tr.allT, Bool.and_eq_true] at ha; exact ⟨ha.2.1, ha.2.2, fun x h => by cases h; exact ha.1⟩
      cases i with
      | zero => exact hl.2.2 v h
      | succ i =>
        rw [Tr.getF_node] at h
        split at h
        · exact ih _ _ _ hl.1 h
        · exact ih _ _ _ hl.2.1 h
theorem Tr.allT_get {α : Type} {p : α → Bool} {t : Tr α} (ha : t.allT p = true) {i : Nat} {v : α} (h : t.get i = some v) : p v = true := Tr.allT_getF p _ t i v ha h

/-! ### What forces a value (for the kernel's runs): each is the identity -/
section force
variable {β : Type}
def fN (n : Nat) (k : Nat → β) : β := match n with
  | 0 => k 0
  | m + 1 => k (m + 1)
def fI (n : Int) (k : Int → β) : β := match n with
  | .ofNat m => fN m fun m => k (.ofNat m)
  | .negSucc m => fN m fun m => k (.negSucc m)
def fB (b : Bool) (k : Bool → β) : β := match b with
  | true => k true
  | false => k false
def fA (a : Option Addr) (k : Option Addr → β) : β := match a with
  | none => k none
  | some ⟨b, o, none⟩ => fN b fun b => fN o fun o => k (some ⟨b, o, none⟩)
  | some ⟨b, o, some s⟩ => fN b fun b => fN o fun o => fN s fun s => k (some ⟨b, o, some s⟩)
/-- One cell's value. -/
def f1 (v : Value) (k : Value → β) : β := match v with
  | .int kd n => fI n fun n => k (.int kd n)
  | .bool b => fB b fun b => k (.bool b)
  | .pointer a => fA a fun a => k (.pointer a)
  | .slice a l c => fA a fun a => fN l fun l => fN c fun c => k (.slice a l c)
  | v => k v
def fL (l : List Value) (k : List Value → β) : β := match l with
  | [] => k []
  | v :: r => f1 v fun v => fL r fun r => k (v :: r)
def fV (v : Value) (k : Value → β) : β := match v with
  | .agg cs => fL cs.toList fun l => k (.agg ⟨l⟩)
  | .tuple cs => fL cs.toList fun l => k (.tuple ⟨l⟩)
  | .iface t v => f1 v fun v => k (.iface t v)
  | v => f1 v k
theorem fN_eq (n : Nat) (k : Nat → β) : fN n k = k n := by cases n <;> rfl
theorem fI_eq (n : Int) (k : Int → β) : fI n k = k n := by cases n <;> simp [fI, fN_eq]
theorem fB_eq (b : Bool) (k : Bool → β) : fB b k = k b := by cases b <;> rfl
theorem fA_eq (a : Option Addr) (k : Option Addr → β) : fA a k = k a := by
  rcases a with _ | ⟨b, o, _ | s⟩ <;> simp [fA, fN_eq]
theorem f1_eq (v : Value) (k : Value → β) : f1 v k = k v := by
  cases v <;> simp [f1, fI_eq, fB_eq, fA_eq, fN_eq]
theorem fL_eq (l : List Value) : ∀ (k : List Value → β), fL l k = k l := by
  induction l with
  | nil => intro k; rfl
  | cons v r ih => intro k; simp only [fL, f1_eq, ih]
theorem fV_eq (v : Value) (k : Value → β) : fV v k = k v := by
  cases v <;> simp [fV, f1_eq, fL_eq]
end force

/-! ### Equal values, by a run -/
def beq1 : Value → Value → Bool
  | .bool a, .bool b => a == b
  | .int k a, .int k' b => k == k' && a == b
  | .string a, .string b => decide (a = b)
  | .pointer a, .pointer b => a == b
  | .slice a l c, .slice a' l' c' => a == a' && l == l' && c == c'
  | .map a, .map b => a == b
  | .nilFunc, .nilFunc => true
  | .nilIface, .nilIface => true
  | _, _ => false
def beqL : List Value → List Value → Bool
  | [], [] => true
  | a :: r, b :: s => beq1 a b && beqL r s
  | _, _ => false
def beqV : Value → Value → Bool
  | .agg a, .agg b => beqL a.toList b.toList
  | .tuple a, .tuple b => beqL a.toList b.toList
  | .iface t v, .iface u w => t == u && beq1 v w
  | a, b => beq1 a b
theorem beq1_sound {a b : Value} (h : beq1 a b = true) : a = b := by
  cases a <;> cases b <;> simp_all [beq1]
theorem beqL_sound : ∀ {a b : List Value}, beqL a b = true → a = b
  | [], [], _ => rfl
  | x :: r, y :: s, h => by
    simp only [beqL, Bool.and_eq_true] at h
    rw [beq1_sound h.1, beqL_sound h.2]
  | [], _ :: _, h => by simp [beqL] at h
  | _ :: _, [], h => by simp [beqL] at h
theorem beqV_sound {a b : Value} (h : beqV a b = true) : a = b := by
  cases a <;> cases b <;> simp only [beqV] at h <;>
    first
      | exact beq1_sound h
      | (have := beqL_sound h; exact congrArg _ (Array.toList_inj.1 this))
      | (simp only [Bool.and_eq_true, beq_iff_eq] at h; rw [h.1, beq1_sound h.2])

/-! ### Types as the machine sees them -/
inductive DK where
  | int (k : IntKind)
  | bool
  | str
  | ptr (e : TypeId)
  | slc (e : TypeId)
  | arr (n : Nat) (e : TypeId)
  | map (k e : TypeId)
  | strc (fs : List (Nat × TypeId))
  | iface
  | func
  | oth
structure Ti where
  k : DK
  size : Nat
  bytes : Nat
  zero : Option (List Value)
  cmp : Bool
def DK.agg : DK → Bool
  | .arr _ _ | .strc _ => true
  | _ => false
def Ti.zv (t : Ti) : Option Value :=
  match t.zero with
  | none => none
  | some l => match t.k.agg, l with
    | true, l => some (.agg ⟨l⟩)
    | false, [v] => some v
    | false, _ => none

/-! ### Memory -/
inductive Cl where
  | lst (l : List Value)
  | big (n : Nat) (z : Value) (m : Tr Value)
inductive AObj where
  | row (c : Cl) (spare : Nat) (rw : Bool)
  | map (es : List (Value × Value))
def AObj.rw : AObj → Bool
  | .row _ _ rw => rw
  | .map _ => true
structure Hp where
  n : Nat
  m : Tr AObj
def Hp.get (H : Hp) (i : Nat) : Option AObj := H.m.get i
def Hp.put (H : Hp) (i : Nat) (o : Option AObj) : Hp := ⟨H.n, H.m.put i o⟩
def Hp.alloc (H : Hp) (o : AObj) : Hp := ⟨H.n + 1, H.m.put H.n (some o)⟩
def Hp.reserve (H : Hp) (k : Nat) : Hp := ⟨H.n + k, H.m⟩

def Cl.at : Cl → Nat → Option Value
  | .lst l, i => l[i]?
  | .big n z m, i => match m.get i with
    | some v => if i < n then some v else none
    | none => if i < n then some z else none
def Cl.len : Cl → Nat
  | .lst l => l.length
  | .big n _ _ => n
/-- n cells from off on. -/
def Cl.rd : Cl → Nat → Nat → Option (List Value)
  | .lst l, off, n => match Nat.beq ((l.drop off).take n).length n with
    | true => some ((l.drop off).take n)
    | false => none
  | .big s z m, off, n => match Nat.ble (off + n) s with
    | true => some ((List.range n).map fun j => match m.get (off + j) with | some v => v | none => z)
    | false => none
def ovl (spare : Nat) : List Value → List Value → Option (List Value × Nat)
  | l, [] => some (l, spare)
  | [], v :: vs => match Nat.ble (v :: vs).length spare with
    | true => some (v :: vs, spare - (v :: vs).length)
    | false => none
  | _ :: cs, v :: vs => match ovl spare cs vs with
    | some (r, s) => some (v :: r, s)
    | none => none
def spl (spare : Nat) : List Value → Nat → List Value → Option (List Value × Nat)
  | l, 0, vs => ovl spare l vs
  | c :: cs, n + 1, vs => match spl spare cs n vs with
    | some (r, s) => some (c :: r, s)
    | none => none
  | [], _ + 1, _ => none
def putAll : Tr Value → Nat → List Value → Tr Value
  | m, _, [] => m
  | m, off, v :: vs => putAll (m.put off (some v)) (off + 1) vs
/-- Cells written from off on. -/
def Cl.wr (spare : Nat) : Cl → Nat → List Value → Option (Cl × Nat)
  | .lst l, off, vs => match spl spare l off vs with
    | some (l', s) => some (.lst l', s)
    | none => none
  | .big n z m, off, vs => match Nat.ble (off + vs.length) n with
    | true => some (.big n z (putAll m off vs), spare)
    | false => none
def Hp.rd (H : Hp) (id off n : Nat) : Option (List Value) :=
  match H.get id with
  | some (.row c _ _) => c.rd off n
  | _ => none
/-- A value that takes one cell. -/
def one : Value → Bool
  | .agg _ | .tuple _ => false
  | _ => true
def Hp.wr (H : Hp) (id off : Nat) (vs : List Value) : Option Hp :=
  match H.get id, vs.all one with
  | some (.row c s true), true => match c.wr s off vs with
    | some (c', s') => some (H.put id (some (.row c' s' true)))
    | none => none
  | _, _ => none

/-! ### The light code -/
inductive Od where
  | t (n : Nat)
  | c (v : Value)
  | g (n : Nat)
  | f (n : Nat)
def Od.ev (t : Tr Value) : Od → Value
  | .t n => match t.get n with
    | some v => v
    | none => undef
  | .c v => v
  | .g n => .pointer (some ⟨n, 0, none⟩)
  | .f n => .func (.func n) #[] #[]
def Od.isC : Od → Bool
  | .c _ => true
  | _ => false

/-- Operations that ask nothing of memory. -/
inductive Pi where
  | mv (x : Od)
  | pick (c a b : Od)
  | build (T : TypeId) (ps : List (Nat × Od))
  | nilc (x : Od)
  | bin (op : BinOp) (T : TypeId) (x y : Od)
  | un (op : UnOp) (x : Od)
  | cnv (k : IntKind) (x : Od)
  | same (x : Od)
  | mkif (T : TypeId) (x : Od)
  | mkfn (f : FuncId) (first caps : List Od)
  | slc (T : TypeId) (x : Od) (l h m : Option Od)
  | fadr (T : TypeId) (x : Od) (i : Nat)
  | fld (T : TypeId) (x : Od) (i : Nat)
  | iadr (T : TypeId) (x i : Od)
  | idx (T : TypeId) (x i : Od)
  | tas (x : Od) (T U : TypeId) (ok : Bool)
  | ext (x : Od) (i : Nat)
  | len (T : TypeId) (x : Od)
  | cap (T : TypeId) (x : Od)
  | mn (xs : List Od)
  | mx (xs : List Od)
  | bad
/-- Operations that read memory. -/
inductive Ri where
  | load (T : TypeId) (a : Od)
  | look (T : TypeId) (m k : Od) (ok : Bool)
  | mlen (T : TypeId) (m : Od)
  | b2s (T : TypeId) (x : Od)
/-- Operations that make a block. -/
inductive Li where
  | alloc (T : TypeId)
  | box (T : TypeId) (x : Od)
  | bsl (T : TypeId) (n : Nat) (ps : List (Nat × Od))
  | mksl (T : TypeId) (l c : Od)
  | mkmap (T : TypeId)
  | s2b (T : TypeId) (x : Od)
/-- Operations that write memory. -/
inductive Ei where
  | store (T : TypeId) (a x : Od)
  | mupd (T : TypeId) (m k v : Od)
  | app (T : TypeId) (s x : Od)
  | appz (T : TypeId) (s x : Od)
  | cpy (T : TypeId) (d s : Od)
  | clr (T : TypeId) (x : Od)
  | mkb (x : Od)
inductive Ai where
  | p (o : Pi)
  | r (o : Ri)
  | a (o : Li)
  | e (o : Ei)
  | call (f : Od) (args : List Od)
  | inv (x : Od) (m : String) (args : List Od)
structure Lo where
  d : Option Nat
  o : Ai
  g : Option (Nat × Bool)
/-- An operation of a region that draws its order: its number in the region, the slot of what it makes, how many of the elder memories it must read alike in, whether it must be asked again, which elder readings must be asked again behind it, the temporaries it looks at. -/
structure Dl where
  lo : Lo
  i : Nat
  slot : Nat
  back : Nat
  keep : Bool
  chk : List Nat
  ls : List Nat
inductive Ac where
  | skip
  | reg (ops : List Lo)
  | dreg (na : Nat) (ops : List Dl)
  | seq (a b : Ac)
  | cond (c : Od) (a b : Ac)
  | blk (id : Nat) (b : Ac)
  | loop (b : Ac)
  | exit (id : Nat)
  | ret
inductive Rv where
  | t (n : Nat)
  | cell (a : Nat) (T : TypeId)
structure AFun where
  code : Ac
  res : List Rv
  nt : Nat

structure Env where
  ty : TypeId → Option Ti
  ns : Nat
  prog : FuncId → Option AFun
  ext : FuncId → Option (List Value → Hp → Option (Value × Hp))
  meth : TypeId → String → Value → Option (FuncId × Value)
  impl : TypeId → TypeId → Option Bool

/-! ### Operations -/
/-- Less and at most, by the numbers' forms (so that the kernel sees through c + 3). -/
def ltI : Int → Int → Bool
  | .ofNat a, .ofNat b => Nat.ble (a + 1) b
  | .ofNat _, .negSucc _ => false
  | .negSucc _, .ofNat _ => true
  | .negSucc a, .negSucc b => Nat.ble (b + 1) a
theorem ltI_eq (a b : Int) : ltI a b = decide (a < b) := by
  cases a <;> cases b <;> rw [Bool.eq_iff_iff, decide_eq_true_eq] <;> simp only [ltI, Nat.ble_eq, Int.ofNat_eq_natCast, Int.negSucc_eq, Bool.false_eq_true, true_iff, false_iff] <;> omega
def leI (a b : Int) : Bool := !ltI b a
theorem leI_eq (a b : Int) : leI a b = decide (a ≤ b) := by
  unfold leI
  rw [ltI_eq, Bool.eq_iff_iff, Bool.not_eq_true', decide_eq_false_iff_not, decide_eq_true_eq]; omega
def intBin (op : BinOp) (k : IntKind) (a : Int) (k' : IntKind) (b : Int) : Option Value :=
  match op with
  | .shl => if b < 0 then none else some (.int k (k.wrap (a * 2 ^ min b.toNat k.bits)))
  | .shr => if b < 0 then none else some (.int k (a.fdiv (2 ^ min b.toNat k.bits)))
  | op =>
    if k ≠ k' then none else
    match op with
    | .add => some (.int k (k.wrap (a + b)))
    | .sub => some (.int k (k.wrap (a - b)))
    | .mul => some (.int k (k.wrap (a * b)))
    | .quo => if b = 0 then none else some (.int k (k.wrap (a.tdiv b)))
    | .rem => if b = 0 then none else some (.int k (a.tmod b))
    | .and => some (.int k (k.wrap (BitVec.ofInt k.bits a &&& BitVec.ofInt k.bits b).toNat))
    | .or => some (.int k (k.wrap (BitVec.ofInt k.bits a ||| BitVec.ofInt k.bits b).toNat))
    | .xor => some (.int k (k.wrap (BitVec.ofInt k.bits a ^^^ BitVec.ofInt k.bits b).toNat))
    | .andNot => some (.int k (k.wrap (BitVec.ofInt k.bits a &&& ~~~ BitVec.ofInt k.bits b).toNat))
    | .eql => some (.bool (a == b))
    | .neq => some (.bool (a != b))
    | .lss => some (.bool (ltI a b))
    | .leq => some (.bool (leI a b))
    | .gtr => some (.bool (ltI b a))
    | .geq => some (.bool (leI b a))
    | _ => none
def strBin (op : BinOp) (a b : ByteArray) : Option Value :=
  match op with
  | .eql => some (.bool (a.toList == b.toList))
  | .neq => some (.bool !(a.toList == b.toList))
  | .lss => some (.bool (Op.bytesLess a.toList b.toList))
  | .leq => some (.bool (Op.bytesLess a.toList b.toList || a.toList == b.toList))
  | .gtr => some (.bool !(Op.bytesLess a.toList b.toList || a.toList == b.toList))
  | .geq => some (.bool !(Op.bytesLess a.toList b.toList))
  | .add => if a.size + b.size < 2 ^ 40 then some (.string (a ++ b)) else none
  | _ => none
/-- The cells of two structs whose fields are all integers. -/
def eqInts : List (Nat × TypeId) → List Value → List Value → Option Bool
  | [], [], [] => some true
  | _ :: fs, .int k a :: xs, .int k' b :: ys => if k ≠ k' then none else if a = b then eqInts fs xs ys else some false
  | _, _, _ => none
def eqA (E : Env) (k : DK) (c : Bool) (x y : Value) : Option Bool :=
  match k, x, y with
  | .bool, .bool a, .bool b => some (a == b)
  | .ptr _, .pointer none, .pointer b => some b.isNone
  | .ptr _, .pointer (some _), .pointer none => some false
  | .slc _, .slice none _ _, .slice b _ _ => some b.isNone
  | .slc _, .slice (some _) _ _, .slice none _ _ => some false
  | .map _ _, .map none, .map b => some b.isNone
  | .map _ _, .map (some _), .map none => some false
  | .func, .nilFunc, .nilFunc => some true
  | .func, .nilFunc, .func _ _ _ => some false
  | .func, .func _ _ _, .nilFunc => some false
  | .iface, .nilIface, .nilIface => if c then some true else none
  | .iface, .nilIface, .iface _ _ => some false
  | .iface, .iface _ _, .nilIface => some false
  | .iface, .iface t v, .iface u w =>
    if t ≠ u then some false else
    match E.ty t, v, w with
    | some { k := .int _, cmp := true, .. }, .int j a, .int j' b => if j = j' then some (a == b) else none
    | _, _, _ => none
  | _, _, _ => none
def binA (E : Env) (op : BinOp) (T : TypeId) (c : Bool) (x y : Value) : Option Value :=
  match x, y with
  | .int k a, .int k' b => intBin op k a k' b
  | .string a, .string b => strBin op a b
  | x, y =>
    match E.ty T with
    | none => none
    | some ti =>
      match op with
      | .eql => (eqA E ti.k c x y).map .bool
      | .neq => (eqA E ti.k c x y).map fun b => .bool !b
      | _ => none
def unA (op : UnOp) (x : Value) : Option Value :=
  match op, x with
  | .neg, .int k n => some (.int k (k.wrap (0 - n)))
  | .not, .bool b => some (.bool !b)
  | _, _ => none
/-- A bound of a slice expression: d where it is left out. -/
def bnd (t : Tr Value) (x : Option Od) (d hi : Nat) : Option Nat :=
  match x with
  | none => some d
  | some o => match o.ev t with
    | .int _ n => match leI 0 n && leI n (.ofNat hi) with
      | true => some n.toNat
      | false => none
    | _ => none
def fillA (cells : List Value) : List (Nat × Nat × Value) → Option (List Value)
  | [] => some cells
  | (off, size, v) :: r =>
    if v.cells.size = size ∧ off + size ≤ cells.length then fillA (cells.take off ++ (v.cells.toList ++ cells.drop (off + size))) r else none
/-- Where a struct's fields lie, and how many cells each has. -/
def plcs (E : Env) : List (Nat × TypeId) → Option (List (Nat × Nat))
  | [] => some []
  | (off, ft) :: r => match E.ty ft, plcs E r with
    | some ti, some l => some ((off, ti.size) :: l)
    | _, _ => none
def parts (pl : Nat → Option (Nat × Nat)) (t : Tr Value) : List (Nat × Od) → Option (List (Nat × Nat × Value))
  | [] => some []
  | (i, x) :: r => match pl i, parts pl t r with
    | some (off, size), some l => some ((off, size, x.ev t) :: l)
    | _, _ => none
def mn2 : Value → Value → Option Value
  | .int k x, .int _ y => some (.int k (if y < x then y else x))
  | _, _ => none
def mx2 : Value → Value → Option Value
  | .int k x, .int _ y => some (.int k (if y > x then y else x))
  | _, _ => none
def foldO (f : Value → Value → Option Value) : Value → List Value → Option Value
  | a, [] => some a
  | a, b :: r => match f a b with
    | some c => foldO f c r
    | none => none
/-- Cells as a value of a type. -/
def asV (ti : Ti) (l : List Value) : Option Value :=
  match ti.k.agg, l with
  | true, l => some (.agg ⟨l⟩)
  | false, [v] => some v
  | false, _ => none
def fadrA (E : Env) (T : TypeId) (i : Nat) (x : Value) : Option Value :=
  match E.ty T, x with
    | some { k := .strc fs, .. }, .pointer (some ⟨b, o, none⟩) => match fs[i]? with
      | some (off, ft) => match E.ty ft with
        | some tf => if tf.size = 0 then none else some (.pointer (some ⟨b, o + off, none⟩))
        | none => none
      | none => none
    | _, _ => none
def fldA (E : Env) (T : TypeId) (i : Nat) (x : Value) : Option Value :=
  match E.ty T, x with
    | some { k := .strc fs, .. }, .agg cs => match fs[i]? with
      | some (off, ft) => match E.ty ft with
        | some tf => match Nat.beq ((cs.toList.drop off).take tf.size).length tf.size with
          | true => asV tf ((cs.toList.drop off).take tf.size)
          | false => none
        | none => none
      | none => none
    | _, _ => none
def iadrA (E : Env) (T : TypeId) (x i : Value) : Option Value :=
  match E.ty T, x, i with
    | some { k := .slc e, .. }, .slice (some ⟨b, o, some _⟩) len _, .int _ n => match E.ty e with
      | some te => if 0 ≤ n ∧ n < len then some (.pointer (some ⟨b, o + n.toNat * te.size, none⟩)) else none
      | none => none
    | some { k := .arr m e, .. }, .pointer (some ⟨b, o, none⟩), .int _ n => match E.ty e with
      | some te => if 0 ≤ n ∧ n < m then some (.pointer (some ⟨b, o + n.toNat * te.size, none⟩)) else none
      | none => none
    | _, _, _ => none
def idxA (E : Env) (T : TypeId) (x i : Value) : Option Value :=
  match E.ty T, x, i with
    | some { k := .str, .. }, .string s, .int _ n => if 0 ≤ n then (match s[n.toNat]? with | some b => some (.int .u8 b.toNat) | none => none) else none
    | some { k := .arr m e, .. }, .agg cs, .int _ n => match E.ty e with
      | some te => if 0 ≤ n ∧ n < m then
          (match Nat.beq ((cs.toList.drop (n.toNat * te.size)).take te.size).length te.size with
          | true => asV te ((cs.toList.drop (n.toNat * te.size)).take te.size)
          | false => none) else none
      | none => none
    | _, _, _ => none
def tasF (ti : Ti) (ok : Bool) : Option Value :=
  match ok, ti.zv with
  | true, some z => some (.tuple #[z, .bool false])
  | _, _ => none
def tasH (ok : Bool) (v : Value) : Value :=
  match ok with
  | true => .tuple #[v, .bool true]
  | false => v
def tasA (E : Env) (ti : Ti) (U : TypeId) (ok : Bool) (x : Value) : Option Value :=
  match x with
  | .nilIface => tasF ti ok
  | .iface d v => match ti.k with
    | .iface => match E.impl d U with
      | some true => some (tasH ok (.iface d v))
      | some false => tasF ti ok
      | none => none
    | _ => match Nat.beq d U with
      | true => some (tasH ok v)
      | false => tasF ti ok
  | _ => none
def pureA (E : Env) (t : Tr Value) : Pi → Option Value
  | .mv x => some (x.ev t)
  | .pick c a b => match c.ev t with
    | .bool true => some (a.ev t)
    | .bool false => some (b.ev t)
    | _ => none
  | .build T ps => match E.ty T with
    | some { k := .strc fs, zero := some z, .. } => match plcs E fs with
      | some L => match parts (fun i => L[i]?) t ps with
        | some l => match fillA z l with
          | some l => some (.agg ⟨l⟩)
          | none => none
        | none => none
      | none => none
    | _ => none
  | .nilc x => match x.ev t with
    | .pointer (some a) => some (.pointer (some a))
    | .iface T v => some (.iface T v)
    | .func (.func f) a b => some (.func (.func f) a b)
    | _ => none
  | .bin op T x y => binA E op T (x.isC || y.isC) (x.ev t) (y.ev t)
  | .un op x => unA op (x.ev t)
  | .cnv k x => match x.ev t with
    | .int _ n => some (.int k (k.wrap n))
    | _ => none
  | .same x => match x.ev t with
    | .string s => some (.string s)
    | _ => none
  | .mkif T x => some (.iface T (x.ev t))
  | .mkfn f first caps => some (.func (.func f) ⟨first.map (Od.ev t)⟩ ⟨caps.map (Od.ev t)⟩)
  | .slc T x l h m => match E.ty T, x.ev t with
    | some { k := .str, .. }, .string s => match m, bnd t h s.size s.size with
      | none, some hi => match bnd t l 0 hi with
        | some lo => some (.string (s.extract lo hi))
        | none => none
      | _, _ => none
    | some { k := .slc e, .. }, .slice a len cap => match E.ty e, bnd t m cap cap with
      | some te, some mx => match bnd t h len mx with
        | some hi => match bnd t l 0 hi with
          | some lo => match a with
            | none => some (.slice none 0 0)
            | some ⟨b, o, some s⟩ =>
              if s = 2 * te.size ∨ s = 2 * te.size + 1 then
                some (.slice (some ⟨b, if mx = lo then o else o + lo * te.size, some (if m.isSome then 2 * te.size + 1 else s)⟩) (hi - lo) (mx - lo))
              else none
            | some ⟨_, _, none⟩ => match cap with
              | 0 => some (.slice (some ⟨0, 0, none⟩) 0 0)
              | _ + 1 => none
          | none => none
        | none => none
      | _, _ => none
    | some { k := .arr n e, .. }, .pointer (some ⟨b, o, none⟩) => match E.ty e, bnd t m n n with
      | some te, some mx => match bnd t h n mx with
        | some hi => match bnd t l 0 hi with
          | some lo => some (.slice (some ⟨b, if mx = lo then o else o + lo * te.size, some (2 * te.size + 1)⟩) (hi - lo) (mx - lo))
          | none => none
        | none => none
      | _, _ => none
    | _, _ => none
  | .fadr T x i => fadrA E T i (x.ev t)
  | .fld T x i => fldA E T i (x.ev t)
  | .iadr T x i => iadrA E T (x.ev t) (i.ev t)
  | .idx T x i => idxA E T (x.ev t) (i.ev t)
  | .tas x _ U ok => match E.ty U with
    | none => none
    | some ti => tasA E ti U ok (x.ev t)
  | .ext x i => match x.ev t with
    | .tuple vs => vs.toList[i]?
    | _ => none
  | .len T x => match E.ty T, x.ev t with
    | some { k := .str, .. }, .string s => some (.int .i64 s.size)
    | some { k := .slc _, .. }, .slice _ n _ => some (.int .i64 n)
    | _, _ => none
  | .cap T x => match E.ty T, x.ev t with
    | some { k := .slc _, .. }, .slice none _ _ => some (.int .i64 0)
    | some { k := .slc _, .. }, .slice (some ⟨_, _, some s⟩) _ c => match Nat.mod s 2 with
      | 0 => none
      | _ + 1 => some (.int .i64 c)
    | _, _ => none
  | .mn xs => match xs.map (Od.ev t) with
    | [] => none
    | a :: r => foldO mn2 a r
  | .mx xs => match xs.map (Od.ev t) with
    | [] => none
    | a :: r => foldO mx2 a r
  | .bad => none

/-- A key among entries: the place and the value. -/
def findA (k : Value) : List (Value × Value) → Nat → Option (Option (Nat × Value))
  | [], _ => some none
  | (k', v) :: es, i =>
    match k, k' with
    | .int j a, .int j' b => if j = j' then (if a = b then some (some (i, v)) else findA k es (i + 1)) else none
    | .string a, .string b => if a == b then some (some (i, v)) else findA k es (i + 1)
    | _, _ => none
def DK.keyOk : DK → Value → Bool
  | .int _, .int _ _ => true
  | .str, .string _ => true
  | _, _ => false
def bytesOf : List Value → Option (List UInt8)
  | [] => some []
  | .int .u8 n :: r => match bytesOf r with
    | some l => some (UInt8.ofNat n.toNat :: l)
    | none => none
  | _ :: _ => none
def readA (E : Env) (t : Tr Value) (H : Hp) : Ri → Option Value
  | .load T a => match E.ty T, a.ev t with
    | some ti, .pointer (some ⟨b, o, none⟩) => match H.rd b o ti.size with
      | some l => asV ti l
      | none => none
    | _, _ => none
  | .look T m k ok => match E.ty T with
    | some { k := .map kt et, .. } => match E.ty kt, E.ty et, m.ev t with
      | some kti, some eti, .map none => match kti.k.keyOk (k.ev t), eti.zv with
        | true, some z => some (if ok then .tuple #[z, .bool false] else z)
        | _, _ => none
      | some kti, some eti, .map (some r) => match kti.k.keyOk (k.ev t), eti.zv, H.get r with
        | true, some z, some (.map es) => match findA (k.ev t) es 0 with
          | some (some (_, v)) => some (if ok then .tuple #[v, .bool true] else v)
          | some none => some (if ok then .tuple #[z, .bool false] else z)
          | none => none
        | _, _, _ => none
      | _, _, _ => none
    | _ => none
  | .mlen T m => match E.ty T, m.ev t with
    | some { k := .map _ _, .. }, .map none => some (.int .i64 0)
    | some { k := .map _ _, .. }, .map (some r) => match H.get r with
      | some (.map es) => some (.int .i64 es.length)
      | _ => none
    | _, _ => none
  | .b2s T x => match E.ty T, x.ev t with
    | some { k := .slc _, .. }, .slice none _ _ => some (.string .empty)
    | some { k := .slc _, .. }, .slice (some ⟨b, o, some _⟩) len _ => match H.rd b o len with
      | some l => match bytesOf l with
        | some bs => some (.string ⟨⟨bs⟩⟩)
        | none => none
      | none => none
    | _, _ => none

/-- n times the same cells. -/
def rep (z : List Value) : Nat → List Value
  | 0 => []
  | n + 1 => z ++ rep z n
def mkRow (z : List Value) (n : Nat) : Cl :=
  match Nat.ble (n * z.length) 512, z with
  | false, v :: r => match r.all (beq1 v) with
    | true => .big (n * (v :: r).length) v .nil
    | false => .lst (rep (v :: r) n)
  | _, z => .lst (rep z n)
def allocA (E : Env) (t : Tr Value) : Li → Option (AObj × (Nat → Value))
  | .alloc T => match E.ty T with
    | some ti => match ti.zero with
      | some z => some (.row (.lst z) 0 true, fun i => .pointer (some ⟨i, 0, none⟩))
      | none => none
    | none => none
  | .box _ x => some (.row (.lst (x.ev t).cells.toList) 0 true, fun i => .pointer (some ⟨i, 0, none⟩))
  | .bsl T n ps => match E.ty T with
    | some { k := .slc e, .. } => match E.ty e with
      | some te => match te.zero, parts (fun i => some (i * te.size, te.size)) t ps with
        | some z, some l => if n * te.size ≤ 65536 ∧ z.length = te.size then
            (match fillA (rep z n) l with
            | some cs => some (.row (.lst cs) 0 true, fun i => .slice (some ⟨i, 0, some (2 * te.size + 1)⟩) n n)
            | none => none) else none
        | _, _ => none
      | none => none
    | _ => none
  | .mksl T l c => match E.ty T, l.ev t, c.ev t with
    | some { k := .slc e, .. }, .int _ ln, .int _ cn => match E.ty e with
      | some te => match te.zero with
        | some z => if 0 ≤ ln ∧ ln ≤ cn ∧ cn ≤ 2 ^ 20 ∧ te.bytes ≤ 2 ^ 20 ∧ z.length = te.size then
            some (.row (mkRow z cn.toNat) 0 true, fun i => .slice (some ⟨i, 0, some (2 * te.size + 1)⟩) ln.toNat cn.toNat) else none
        | none => none
      | none => none
    | _, _, _ => none
  | .mkmap _ => some (.map [], fun i => .map (some i))
  | .s2b _ x => match x.ev t with
    | .string s => if s.size ≤ 2 ^ 40 then some (.row (.lst (s.data.toList.map fun b => .int .u8 b.toNat)) 0 false, fun i => .slice (some ⟨i, 0, some 2⟩) s.size s.size) else none
    | _ => none

/-- The cells that are to be appended or copied: n elements of size cells. -/
def srcCells (H : Hp) (size n : Nat) : Value → Option (List Value)
  | .slice none _ _ => some []
  | .slice (some ⟨b, o, some s⟩) _ _ => if s = 2 * size ∨ s = 2 * size + 1 then H.rd b o (n * size) else none
  | .slice (some ⟨0, 0, none⟩) 0 0 => some []
  | .string s => some ((s.data.toList.take n).map fun b => .int .u8 b.toNat)
  | _ => none
def lenA : Value → Option Nat
  | .slice none _ _ => some 0
  | .slice (some _) n _ => some n
  | .string s => some s.size
  | _ => none
/-- Append cells (n elements of size cells each) behind a slice. -/
def appA (size bytes : Nat) (H : Hp) (s : Value) (n : Nat) (new : List Value) : Option (Value × Hp) :=
  match s with
  | .slice none _ _ => match n with
    | 0 => some (.slice none 0 0, H)
    | n + 1 => if (n + 1) * bytes ≤ 2 ^ 40 ∧ n + 1 ≤ 2 ^ 40 ∧ bytes ≤ 2 ^ 20 ∧ new.length = (n + 1) * size then
        some (.slice (some ⟨H.n, 0, some (2 * size)⟩) (n + 1) (n + 1), H.alloc (.row (.lst new) 0 true)) else none
  | .slice (some ⟨b, o, some sp⟩) len cap =>
    if (sp = 2 * size ∨ sp = 2 * size + 1) ∧ new.length = n * size then
      if len + n ≤ cap then
        match n with
        | 0 => some (.slice (some ⟨b, o, some sp⟩) len cap, H)
        | n + 1 => match H.wr b (o + len * size) new with
          | some H' => some (.slice (some ⟨b, o, some sp⟩) (len + (n + 1)) cap, H')
          | none => none
      else if (len + n) * bytes ≤ 2 ^ 40 ∧ len + n ≤ 2 ^ 40 ∧ bytes ≤ 2 ^ 20 then
        if sp = 2 * size + 1 then
          match H.rd b o (len * size) with
          | some old => some (.slice (some ⟨H.n, 0, some (2 * size)⟩) (len + n) (len + n), H.alloc (.row (.lst (old ++ new)) 0 true))
          | none => none
        else
          match H.get b, H.rd b o (len * size), new.all one with
          | some (.row _ _ true), some old, true =>
            some (.slice (some ⟨H.n, 0, some (2 * size)⟩) (len + n) (len + n), (H.put b none).alloc (.row (.lst (old ++ new)) 0 true))
          | _, _, _ => none
      else none
    else none
  | .slice (some ⟨0, 0, none⟩) 0 0 => match n with
    | 0 => match new with
      | [] => some (.slice (some ⟨0, 0, none⟩) 0 0, H)
      | _ :: _ => none
    | n + 1 => if (n + 1) * bytes ≤ 2 ^ 40 ∧ n + 1 ≤ 2 ^ 40 ∧ bytes ≤ 2 ^ 20 ∧ new.length = (n + 1) * size then
        some (.slice (some ⟨H.n, 0, some (2 * size)⟩) (n + 1) (n + 1), H.alloc (.row (.lst new) 0 true)) else none
  | _ => none
def setNth (es : List (Value × Value)) (i : Nat) (x : Value × Value) : List (Value × Value) := es.set i x
/-- The whole of a great row. -/
def srcWhole (H : Hp) (size n : Nat) : Value → Option Cl
  | .slice (some ⟨b, 0, some s⟩) _ _ => match H.get b with
    | some (.row (.big m z t) _ _) => if (s = 2 * size ∨ s = 2 * size + 1) ∧ m = n * size ∧ one z = true ∧ t.allT one = true then some (.big m z t) else none
    | _ => none
  | _ => none
/-- n elements copied. -/
def cpyA (H : Hp) (size n : Nat) (da : Option Addr) (s : Value) : Option Hp :=
  match da, srcWhole H size n s with
  | some ⟨b, 0, some sp⟩, some c => match H.get b with
    | some (.row c0 s0 true) => if (sp = 2 * size ∨ sp = 2 * size + 1) ∧ c0.len = c.len ∧ c.len = n * size then some (H.put b (some (.row c s0 true))) else none
    | _ => none
  | _, _ => match srcCells H size n s, da, n with
    | some _, none, _ => some H
    | some _, some ⟨_, _, some _⟩, 0 => some H
    | some new, some ⟨b, o, some sp⟩, _ + 1 => if sp = 2 * size ∨ sp = 2 * size + 1 then H.wr b o new else none
    | _, _, _ => none
def effA (E : Env) (t : Tr Value) (H : Hp) : Ei → Option (Value × Hp)
  | .store T a x => match E.ty T, a.ev t with
    | some ti, .pointer (some ⟨b, o, none⟩) => match Nat.beq (x.ev t).cells.size ti.size with
      | true => match H.wr b o (x.ev t).cells.toList with
        | some H' => some (undef, H')
        | none => none
      | false => none
    | _, _ => none
  | .mupd T m k v => match E.ty T, m.ev t with
    | some { k := .map kt _, .. }, .map (some r) => match E.ty kt, H.get r with
      | some kti, some (.map es) => match kti.k.keyOk (k.ev t), findA (k.ev t) es 0 with
        | true, some (some (i, _)) => some (undef, H.put r (some (.map (es.set i (k.ev t, v.ev t)))))
        | true, some none => some (undef, H.put r (some (.map (es ++ [(k.ev t, v.ev t)]))))
        | _, _ => none
      | _, _ => none
    | _, _ => none
  | .app T s x => match E.ty T with
    | some { k := .slc e, .. } => match E.ty e, lenA (x.ev t) with
      | some te, some n => match srcCells H te.size n (x.ev t), te.zero with
        | some new, some z => match Nat.beq z.length te.size with
          | true => appA te.size te.bytes H (s.ev t) n new
          | false => none
        | _, _ => none
      | _, _ => none
    | _ => none
  | .appz T s x => match E.ty T, x.ev t with
    | some { k := .slc e, .. }, .int _ n => match E.ty e with
      | some te => match te.zero with
        | some z => if 0 ≤ n ∧ n ≤ 2 ^ 20 ∧ te.bytes ≤ 2 ^ 20 ∧ z.length = te.size then appA te.size te.bytes H (s.ev t) n.toNat (rep z n.toNat) else none
        | none => none
      | none => none
    | _, _ => none
  | .cpy T d s => match E.ty T, d.ev t with
    | some { k := .slc e, .. }, .slice da dl _ => match E.ty e, lenA (s.ev t) with
      | some te, some sl => match cpyA H te.size (min sl dl) da (s.ev t) with
        | some H' => some (.int .i64 ((min sl dl : Nat) : Int), H')
        | none => none
      | _, _ => none
    | _, _ => none
  | .clr T x => match E.ty T, x.ev t with
    | some { k := .slc _, .. }, .slice none _ _ => some (.tuple #[], H)
    | some { k := .slc _, .. }, .slice (some ⟨_, _, some _⟩) 0 _ => some (.tuple #[], H)
    | some { k := .slc e, .. }, .slice (some ⟨b, o, some sp⟩) (n + 1) _ => match E.ty e with
      | some te => match te.zero with
        | some z => if (sp = 2 * te.size ∨ sp = 2 * te.size + 1) ∧ z.length = te.size then
            (match H.wr b o (rep z (n + 1)) with
            | some H' => some (.tuple #[], H')
            | none => none) else none
        | none => none
      | none => none
    | _, _ => none
  | .mkb x => match x.ev t with
    | .slice (some ⟨b, o, some sp⟩) len cap => match H.get b with
      | some (.row c s true) => some (.slice (some ⟨b, o, some sp⟩) len cap, H.put b (some (.row c s false)))
      | _ => none
    | _ => none

/-- Whom a call calls, and with what. -/
def calleeA (t : Tr Value) (f : Od) (args : List Od) : Option (FuncId × List Value) :=
  match f.ev t with
  | .func (.func g) first caps => some (g, first.toList ++ args.map (Od.ev t) ++ caps.toList)
  | _ => none
def invokeA (E : Env) (t : Tr Value) (x : Od) (m : String) (args : List Od) : Option (FuncId × List Value) :=
  match x.ev t with
  | .iface T v => match E.meth T m v with
    | some (g, r) => some (g, r :: args.map (Od.ev t))
    | none => none
  | _ => none

/-! ### The run -/
inductive Ax where
  | nrm
  | exit (id : Nat)
  | ret
structure St where
  t : Tr Value
  H : Hp
def wants (g : Option (Nat × Bool)) (t : Tr Value) : Bool :=
  match g with
  | none => true
  | some (n, w) => match t.get n with
    | some (.bool b) => b == w
    | _ => false
def putD (t : Tr Value) (d : Option Nat) (v : Value) : Tr Value :=
  match d with
  | none => t
  | some n => t.put n (some v)
def fO {β : Type} (o : AObj) (k : AObj → β) : β :=
  match o with
  | .row (.lst l) s w => fL l fun l => k (.row (.lst l) s w)
  | .row (.big n z m) s w => fN n fun n => f1 z fun z => k (.row (.big n z m) s w)
  | .map es => k (.map es)
theorem fO_eq {β : Type} (o : AObj) (k : AObj → β) : fO o k = k o := by
  rcases o with ⟨_ | _, s, w⟩ | es <;> simp [fO, fL_eq, fN_eq, f1_eq]
def fT {α β : Type} (t : Tr α) (k : Tr α → β) : β :=
  match t with
  | .nil => k .nil
  | .node v l r => k (.node v l r)
theorem fT_eq {α β : Type} (t : Tr α) (k : Tr α → β) : fT t k = k t := by cases t <;> rfl
def fH {β : Type} (H : Hp) (k : Hp → β) : β :=
  match H with
  | ⟨n, m⟩ => fN n fun n => fT m fun m => k ⟨n, m⟩
theorem fH_eq {β : Type} (H : Hp) (k : Hp → β) : fH H k = k H := by cases H; simp [fH, fN_eq, fT_eq]
abbrev CallF := FuncId → List Value → Hp → Option (Value × Hp)
def execO (E : Env) (call : CallF) (o : Ai) (t : Tr Value) (H : Hp) : Option (Value × Hp) :=
  match o with
  | .p o => match pureA E t o with
    | some v => some (v, H)
    | none => none
  | .r o => match readA E t H o with
    | some v => some (v, H)
    | none => none
  | .a o => match allocA E t o with
    | some (ob, f) => fO ob fun ob => some (f H.n, H.alloc ob)
    | none => none
  | .e o => effA E t H o
  | .call f args => match calleeA t f args with
    | some (g, as) => call g as H
    | none => none
  | .inv x m args => match invokeA E t x m args with
    | some (g, as) => call g as H
    | none => none
def execOps (E : Env) (call : CallF) : List Lo → Tr Value → Hp → Option St
  | [], t, H => some ⟨t, H⟩
  | o :: r, t, H =>
    match wants o.g t with
    | true => match execO E call o.o t H with
      | some (v, H') => fV v fun v => fH H' fun H' => fT (putD t o.d v) fun t' => execOps E call r t' H'
      | none => none
    | false => fT (putD t o.d undef) fun t' => execOps E call r t' H
/-- The state within a region that draws its order: temporaries, memory, memory behind the last writer, the elder ones, the readings to be asked again. -/
structure Ds where
  t : Tr Value
  H : Hp
  K : Hp
  sn : List Hp
  rd : List (Nat × Ri × Tr Value × Value)
def alike (E : Env) (t : Tr Value) (o : Ri) (v : Value) (H : Hp) : Bool :=
  match readA E t H o with
  | some u => beqV u v
  | none => false
/-- Some temporaries alone. -/
def rst : List Nat → Tr Value → Tr Value
  | [], _ => .nil
  | x :: r, t => match t.get x with
    | some v => (rst r t).put x (some v)
    | none => rst r t
def execD1 (E : Env) (call : CallF) (base : Nat) (o : Dl) (D : Ds) : Option Ds :=
  fT (rst o.ls D.t) fun t0 =>
  match wants o.lo.g t0 with
  | false => fT (putD D.t o.lo.d undef) fun t' => some { D with t := t' }
  | true => match o.lo.o with
    | .p p => match pureA E t0 p with
      | some v => fV v fun v => fT (putD D.t o.lo.d v) fun t' => some { D with t := t' }
      | none => none
    | .r r => match readA E t0 D.K r with
      | some v => fV v fun v =>
        match (D.sn.take o.back).all (alike E t0 r v) with
        | true => fT (putD D.t o.lo.d v) fun t' => some { D with t := t', rd := match o.keep with | true => (o.i, r, t0, v) :: D.rd | false => D.rd }
        | false => none
      | none => none
    | .a a => match allocA E t0 a with
      | some (ob, f) => fO ob fun ob => fV (f (base + o.slot)) fun v =>
        match ((D.K :: D.sn).all fun S => (S.get (base + o.slot)).isNone) && ob.rw with
        | true => fT (putD D.t o.lo.d v) fun t' => fH (D.H.put (base + o.slot) (some ob)) fun H' => some { D with t := t', H := H' }
        | false => none
      | none => none
    | op => match execO E call op t0 D.H with
      | some (v, H') => fV v fun v => fH H' fun H' =>
        match D.rd.all fun q => !(o.chk.contains q.1) || alike E q.2.2.1 q.2.1 q.2.2.2 H' with
        | true => fT (putD D.t o.lo.d v) fun t' => some { t := t', H := H', K := H', sn := D.K :: D.sn, rd := D.rd }
        | false => none
      | none => none
def execD (E : Env) (call : CallF) (base : Nat) : List Dl → Ds → Option Ds
  | [], D => some D
  | o :: r, D => match execD1 E call base o D with
    | some D' => execD E call base r D'
    | none => none
def resA (E : Env) (t : Tr Value) (H : Hp) : List Rv → Option (List Value)
  | [] => some []
  | .t n :: r => match resA E t H r with
    | some l => some (Od.ev t (.t n) :: l)
    | none => none
  | .cell a T :: r => match readA E t H (.load T (.t a)), resA E t H r with
    | some v, some l => some (v :: l)
    | _, _ => none
def ofArgs : List Value → Nat → Tr Value → Tr Value
  | [], _, t => t
  | v :: r, i, t => ofArgs r (i + 1) (t.put i (some v))
def callBy (E : Env) (run : Ac → Tr Value → Hp → Option (Ax × St)) : CallF := fun f args H =>
  match E.ext f with
  | some g => g args H
  | none => match E.prog f with
    | none => none
    | some af =>
      match Nat.ble args.length af.nt with
      | false => none
      | true => fT (ofArgs args 0 .nil) fun t =>
        match run af.code t H with
        | some (.nrm, s) | some (.ret, s) => match resA E s.t s.H af.res with
          | some [v] => fV v fun v => some (v, s.H)
          | some l => some (.tuple ⟨l⟩, s.H)
          | none => none
        | _ => none
def exec (E : Env) : Nat → Ac → Tr Value → Hp → Option (Ax × St)
  | 0, _, _, _ => none
  | n + 1, c, t, H =>
    match c with
    | .skip => some (.nrm, ⟨t, H⟩)
    | .reg ops => match execOps E (callBy E (exec E n)) ops t H with
      | some s => some (.nrm, s)
      | none => none
    | .dreg na ops => match execD E (callBy E (exec E n)) H.n ops { t, H := H.reserve na, K := H.reserve na, sn := [], rd := [] } with
      | some D => some (.nrm, ⟨D.t, D.H⟩)
      | none => none
    | .seq a b => match exec E n a t H with
      | some (.nrm, s) => exec E n b s.t s.H
      | r => r
    | .cond c a b => match c.ev t with
      | .bool true => exec E n a t H
      | .bool false => exec E n b t H
      | _ => none
    | .blk id b => match exec E n b t H with
      | some (.exit i, s) => match Nat.beq i id with
        | true => some (.nrm, s)
        | false => some (.exit i, s)
      | r => r
    | .loop b => match exec E n b t H with
      | some (.nrm, s) => exec E n (.loop b) s.t s.H
      | r => r
    | .exit id => some (.exit id, ⟨t, H⟩)
    | .ret => some (.ret, ⟨t, H⟩)
def callA (E : Env) (n : Nat) : CallF := callBy E (exec E n)

end Go.Proofs.YtaegmplbkbaniaaGreatDoor
