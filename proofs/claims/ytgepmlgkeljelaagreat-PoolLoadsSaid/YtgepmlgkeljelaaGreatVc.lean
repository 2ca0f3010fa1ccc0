/- A verified generator of conditions: 'vc' of a function's code is a plain statement over memory; where it holds, the code runs so. (Text shared by all functions.) -/
import Derived.CallsIn
import Derived.OrdersIn
import Derived.Deep.Quiet
import Derived.WalkKit
namespace Go.Proofs.YtgepmlgkeljelaaGreat.Vc
open Go

/-! ### Shapes of values -/
inductive CK where
  | bool | int (k : IntKind) | str | ptr | slice | map | any

@[reducible] def CKT : CK → Type
  | .bool => Bool
  | .int _ => Int
  | .str => ByteArray
  | .ptr => Option Addr
  | .slice => Option Addr × Nat × Nat
  | .map => Option Nat
  | .any => Value

def kno : IntKind → Nat
  | .i8 => 0 | .i16 => 1 | .i32 => 2 | .i64 => 3 | .u8 => 4 | .u16 => 5 | .u32 => 6 | .u64 => 7

theorem kno_inj {a b : IntKind} (h : kno a = kno b) : a = b := by cases a <;> cases b <;> simp [kno] at h <;> rfl

def toV : (c : CK) → CKT c → Value
  | .bool, b => .bool b
  | .int k, n => .int k n
  | .str, s => .string s
  | .ptr, p => .pointer p
  | .slice, (a, n, c) => .slice a n c
  | .map, r => .map r
  | .any, v => v

def CK.ex : CK → (Value → Prop) → Prop
  | .bool, K => ∃ b : Bool, K (.bool b)
  | .int k, K => ∃ n : Int, K (.int k n)
  | .str, K => ∃ s : ByteArray, K (.string s)
  | .ptr, K => ∃ p : Option Addr, K (.pointer p)
  | .slice, K => ∃ (a : Option Addr) (n c : Nat), K (.slice a n c)
  | .map, K => ∃ r : Option Nat, K (.map r)
  | .any, K => ∃ v : Value, K v

def CK.all : (c : CK) → (CKT c → Prop) → Prop
  | .bool, X => ∀ b : Bool, X b
  | .int _, X => ∀ n : Int, X n
  | .str, X => ∀ s : ByteArray, X s
  | .ptr, X => ∀ p : Option Addr, X p
  | .slice, X => ∀ (a : Option Addr) (n c : Nat), X (a, n, c)
  | .map, X => ∀ r : Option Nat, X r
  | .any, X => ∀ v : Value, X v

def CK.on : (c : CK) → Value → (CKT c → Prop) → Prop
  | .bool, .bool b, X => X b
  | .int k, .int k' n, X => cond (Nat.beq (kno k) (kno k')) (X n) False
  | .str, .string s, X => X s
  | .ptr, .pointer p, X => X p
  | .slice, .slice a n c, X => X (a, n, c)
  | .map, .map r, X => X r
  | .any, v, X => X v
  | _, _, _ => False

theorem CK.ex_spec {c : CK} {K : Value → Prop} (h : c.ex K) : ∃ v, K v := by
  cases c <;> simp only [CK.ex] at h
  case slice => obtain ⟨a, n, c, h⟩ := h; exact ⟨_, h⟩
  all_goals (obtain ⟨x, h⟩ := h; exact ⟨_, h⟩)

theorem CK.all_spec {c : CK} {X : CKT c → Prop} (h : c.all X) (x : CKT c) : X x := by
  cases c <;> first | exact h x | exact h x.1 x.2.1 x.2.2

theorem CK.on_spec {c : CK} {v : Value} {X : CKT c → Prop} (h : c.on v X) : ∃ x, v = toV c x ∧ X x := by
  cases c <;> cases v <;> simp only [CK.on] at h <;> try exact h.elim
  all_goals first
    | exact ⟨_, rfl, h⟩
    | (rename_i k k' n
       cases hb : Nat.beq (kno k) (kno k')
       · rw [hb] at h; exact h.elim
       · rw [hb] at h
         have := kno_inj (Nat.eq_of_beq_eq_true hb)
         subst this
         exact ⟨n, rfl, h⟩)

def CK.exs : List CK → (List Value → Prop) → Prop
  | [], K => K []
  | c :: cs, K => c.ex fun v => CK.exs cs fun vs => K (v :: vs)

theorem CK.exs_spec : ∀ {cs : List CK} {K : List Value → Prop}, CK.exs cs K → ∃ vs, vs.length = cs.length ∧ K vs
  | [], _, h => ⟨[], rfl, h⟩
  | _ :: _, _, h => by
    obtain ⟨v, h⟩ := CK.ex_spec h
    obtain ⟨vs, hl, h⟩ := CK.exs_spec h
    exact ⟨v :: vs, by simp [hl], h⟩

inductive Pt where
  | one (c : CK)
  | agg (cs : List CK)

def Pt.ex : Pt → (Value → Prop) → Prop
  | .one c, K => c.ex K
  | .agg cs, K => CK.exs cs fun vs => K (.agg ⟨vs⟩)

theorem Pt.ex_spec {p : Pt} {K : Value → Prop} (h : p.ex K) : ∃ v, K v := by
  cases p with
  | one c => exact CK.ex_spec h
  | agg cs => obtain ⟨vs, _, h⟩ := CK.exs_spec h; exact ⟨_, h⟩

def Pt.exs : List Pt → (List Value → Prop) → Prop
  | [], K => K []
  | p :: ps, K => p.ex fun v => Pt.exs ps fun vs => K (v :: vs)

theorem Pt.exs_spec : ∀ {ps : List Pt} {K : List Value → Prop}, Pt.exs ps K → ∃ vs, K vs
  | [], _, h => ⟨[], h⟩
  | _ :: _, _, h => by
    obtain ⟨v, h⟩ := Pt.ex_spec h
    obtain ⟨vs, h⟩ := Pt.exs_spec h
    exact ⟨v :: vs, h⟩

inductive Sh where
  | pt (p : Pt)
  | tup (ps : List Pt)

def Sh.ex : Sh → (Value → Prop) → Prop
  | .pt p, K => p.ex K
  | .tup ps, K => Pt.exs ps fun vs => K (.tuple ⟨vs⟩)

theorem Sh.ex_spec {s : Sh} {K : Value → Prop} (h : s.ex K) : ∃ v, K v := by
  cases s with
  | pt p => exact Pt.ex_spec h
  | tup ps => obtain ⟨vs, h⟩ := Pt.exs_spec h; exact ⟨_, h⟩

/-- A string by its bytes. -/
@[reducible] def bs (l : List UInt8) : ByteArray := ⟨⟨l⟩⟩

/-! ### The table of types -/
inductive KD where
  | bool | int (k : IntKind) | string | ptr (e : TypeId) | slice (e : TypeId) | array (n : Nat) (e : TypeId) | struct (fs : List (Nat × TypeId)) | map (k e : TypeId) | func | iface | other

def kdOf : Option TypeDesc → KD
  | some .bool => .bool
  | some (.int k) => .int k
  | some .string => .string
  | some (.pointer e) => .ptr e
  | some (.slice e) => .slice e
  | some (.array n e) => .array n e
  | some (.struct fs) => .struct (fs.toList.map fun f => (f.offset, f.type))
  | some (.map k e) => .map k e
  | some (.func _ _ _) => .func
  | some (.interface _) => .iface
  | _ => .other

structure TI where
  kd : KD
  sh : Sh
  size : Nat
  bytes : Nat
  zero : Value

/-- The cells of a value. -/
def cellsOf (v : Value) : List Value := match v with | .agg ⟨l⟩ => l | v => [v]
theorem cellsOf_eq (v : Value) : v.cells = ⟨cellsOf v⟩ := by cases v <;> rfl

/-- What the program's own table says of a type, in the form of a row of ours. -/
def viewT (P : Program) (t : TypeId) : Option (KD × Nat × Nat × Value) :=
  match P.info? t, P.underlying t with
  | some i, some d => (match i.zero with | some z => some (kdOf (some d), i.size, i.bytes, z) | none => none)
  | _, _ => none

def TI.view (i : TI) : Option (KD × Nat × Nat × Value) := some (i.kd, i.size, i.bytes, i.zero)

/-- Does the shape fit the kind and the size? -/
def TI.fits (i : TI) : Bool :=
  match i.sh with
  | .pt (.one _) => (match i.kd with | .struct _ | .array _ _ => false | _ => true) && Nat.beq i.size 1 && Nat.beq (cellsOf i.zero).length 1
  | .pt (.agg cs) => (match i.kd with | .struct _ | .array _ _ => true | _ => false) && Nat.beq cs.length i.size && Nat.beq (cellsOf i.zero).length i.size
  | .tup _ => true

structure TabOk (P : Program) (T : TypeId → Option TI) : Prop where
  view : ∀ t i, T t = some i → viewT P t = i.view
  fits : ∀ t i, T t = some i → i.fits = true

/-! ### Slots -/
abbrev St := Nat → Value

def upd (σ : St) (d : Nat) (v : Value) : St := fun i => cond (Nat.beq i d) v (σ i)
def updo (σ : St) : Option Nat → Value → St
  | some d, v => upd σ d v
  | none, _ => σ
def ev (σ : St) : Operand → Value
  | .tmp t => σ t
  | .const v => v
  | .global g => .pointer (some ⟨g, 0, none⟩)
  | .func f => .func (.func f) #[] #[]

/-! ### Small words -/
/-- A new world, by name. -/
def letW (v : World) (K : World → Prop) : Prop := K v
def bcase (b : Bool) (X Y : Prop) : Prop := match b with | true => X | false => Y
theorem bcase_mk {b : Bool} {X Y : Prop} (h1 : b = true → X) (h2 : b = false → Y) : bcase b X Y := by cases b <;> simp_all [bcase]
def ptrW (p : Option Addr) (X : Addr → Prop) : Prop := match p with | some a => X a | none => False
theorem ptrW_spec {p : Option Addr} {X : Addr → Prop} (h : ptrW p X) : ∃ a, p = some a ∧ X a := by cases p with | none => exact h.elim | some a => exact ⟨a, rfl, h⟩
def onPtr (v : Value) (X : Option Addr → Prop) : Prop := match v with | .pointer p => X p | _ => False
def onBool (v : Value) (X : Bool → Prop) : Prop := match v with | .bool b => X b | _ => False
def onInt (v : Value) (X : IntKind → Int → Prop) : Prop := match v with | .int k n => X k n | _ => False
def onTup (v : Value) (X : List Value → Prop) : Prop := match v with | .tuple ⟨l⟩ => X l | _ => False
def onAgg (v : Value) (X : List Value → Prop) : Prop := match v with | .agg ⟨l⟩ => X l | _ => False
def onMap (v : Value) (X : Option Nat → Prop) : Prop := match v with | .map r => X r | _ => False
theorem onPtr_spec {v : Value} {X : Option Addr → Prop} (h : onPtr v X) : ∃ p, v = .pointer p ∧ X p := by cases v <;> simp only [onPtr] at h <;> first | exact h.elim | exact ⟨_, rfl, h⟩
theorem onBool_spec {v : Value} {X : Bool → Prop} (h : onBool v X) : ∃ p, v = .bool p ∧ X p := by cases v <;> simp only [onBool] at h <;> first | exact h.elim | exact ⟨_, rfl, h⟩
theorem onInt_spec {v : Value} {X : IntKind → Int → Prop} (h : onInt v X) : ∃ k n, v = .int k n ∧ X k n := by cases v <;> simp only [onInt] at h <;> first | exact h.elim | exact ⟨_, _, rfl, h⟩
theorem onTup_spec {v : Value} {X : List Value → Prop} (h : onTup v X) : ∃ l, v = .tuple ⟨l⟩ ∧ X l := by cases v <;> simp only [onTup] at h <;> first | exact h.elim | exact ⟨_, rfl, h⟩
theorem onAgg_spec {v : Value} {X : List Value → Prop} (h : onAgg v X) : ∃ l, v = .agg ⟨l⟩ ∧ X l := by cases v <;> simp only [onAgg] at h <;> first | exact h.elim | exact ⟨_, rfl, h⟩
theorem onMap_spec {v : Value} {X : Option Nat → Prop} (h : onMap v X) : ∃ p, v = .map p ∧ X p := by cases v <;> simp only [onMap] at h <;> first | exact h.elim | exact ⟨_, rfl, h⟩

def lgetW (l : List Value) (i : Nat) (X : Value → Prop) : Prop := match l, i with | [], _ => False | v :: _, 0 => X v | _ :: l, i + 1 => lgetW l i X
theorem lgetW_spec : ∀ {l : List Value} {i : Nat} {X : Value → Prop}, lgetW l i X → ∃ v, l[i]? = some v ∧ X v
  | [], _, _, h => h.elim
  | v :: _, 0, _, h => ⟨v, rfl, h⟩
  | _ :: l, i + 1, _, h => by obtain ⟨v, h1, h2⟩ := lgetW_spec (l := l) (i := i) h; exact ⟨v, by simpa using h1, h2⟩

def tyW (T : TypeId → Option TI) (t : TypeId) (X : TI → Prop) : Prop := match T t with | some i => X i | none => False
theorem tyW_spec {T : TypeId → Option TI} {t : TypeId} {X : TI → Prop} (h : tyW T t X) : ∃ i, T t = some i ∧ X i := by
  unfold tyW at h; cases hT : T t with | none => rw [hT] at h; exact h.elim | some i => rw [hT] at h; exact ⟨i, rfl, h⟩

def bW (b : Bool) (X : Prop) : Prop := match b with | true => X | false => False
theorem bW_spec {b : Bool} {X : Prop} (h : bW b X) : b = true ∧ X := by cases b with | false => exact h.elim | true => exact ⟨rfl, h⟩

/-! ### Cells -/
def cellsAt (w : World) (a : Addr) : Nat → List Value → Prop
  | _, [] => True
  | i, v :: vs => w.cell? (a.add i) = some v ∧ cellsAt w a (i + 1) vs

def loadW (s : Sh) (a : Addr) (w : World) (K : Value → Prop) : Prop :=
  match s with
  | .pt (.one c) => c.ex fun v => w.cell? a = some v ∧ K v
  | .pt (.agg cs) => CK.exs cs fun vs => cellsAt w a 0 vs ∧ K (.agg ⟨vs⟩)
  | .tup _ => False

/-- A value that fills one cell. -/
def oneW (v : Value) (X : Prop) : Prop :=
  match v with
  | .agg _ => False
  | .tuple _ => False
  | _ => X
theorem oneW_spec {v : Value} {X : Prop} (h : oneW v X) : (∀ l, v ≠ .agg l) ∧ (∀ l, v ≠ .tuple l) ∧ X := by
  cases v <;> simp only [oneW] at h <;> first | exact h.elim | exact ⟨(fun _ h => by cases h), (fun _ h => by cases h), h⟩

/-- The cells of a value of a type. -/
def cellsW (i : TI) (v : Value) (X : List Value → Prop) : Prop :=
  match i.sh with
  | .pt (.one _) => oneW v (X [v])
  | .pt (.agg _) => onAgg v fun l => bW (Nat.beq l.length i.size) (X l)
  | .tup _ => False

def storeW : List Value → Addr → Nat → (World → Prop) → World → Prop
  | [], _, _, K, w => K w
  | v :: vs, a, i, K, w => (∃ u, w.cell? (a.add i) = some u) ∧ w.frozen? (a.add i) = false ∧ oneW v (storeW vs a (i + 1) K (w.setCell (a.add i) v))

def putL : List Value → Nat → List Value → List Value
  | cs, _, [] => cs
  | cs, i, v :: vs => putL (cs.set i v) (i + 1) vs

/-- A part (off, of a type) of a row of cells. -/
def partW (i : TI) (off : Nat) (cs : List Value) (K : Value → Prop) : Prop :=
  match i.sh with
  | .pt (.one _) => lgetW cs off K
  | .pt (.agg l) => K (.agg ⟨(cs.drop off).take l.length⟩)
  | .tup _ => False

def nthF (fs : List (Nat × TypeId)) (f : Nat) (X : Nat → TypeId → Prop) : Prop := match fs, f with | [], _ => False | (o, t) :: _, 0 => X o t | _ :: fs, f + 1 => nthF fs f X
theorem nthF_spec : ∀ {fs : List (Nat × TypeId)} {f : Nat} {X : Nat → TypeId → Prop}, nthF fs f X → ∃ o t, fs[f]? = some (o, t) ∧ X o t
  | [], _, _, h => h.elim
  | (o, t) :: _, 0, _, h => ⟨o, t, rfl, h⟩
  | _ :: fs, f + 1, _, h => by obtain ⟨o, t, h1, h2⟩ := nthF_spec (fs := fs) (f := f) h; exact ⟨o, t, by simpa using h1, h2⟩

def onStruct (k : KD) (X : List (Nat × TypeId) → Prop) : Prop := match k with | .struct fs => X fs | _ => False
theorem onStruct_spec {k : KD} {X : List (Nat × TypeId) → Prop} (h : onStruct k X) : ∃ fs, k = .struct fs ∧ X fs := by cases k <;> simp only [onStruct] at h <;> first | exact h.elim | exact ⟨_, rfl, h⟩

end Go.Proofs.YtgepmlgkeljelaaGreat.Vc
