/- What a reading operation asks, as a plain statement (vcQ), and that it is enough. -/
import Derived.Test.YtgepmlgkeljelaaGreatVc
namespace Go.Proofs.YtgepmlgkeljelaaGreat.Vc
open Go

/-! ### Operators -/
def sameK (j k : IntKind) (X : Prop) : Prop := bW (Nat.beq (kno j) (kno k)) X
theorem sameK_spec {j k : IntKind} {X : Prop} (h : sameK j k X) : j = k ∧ X := by
  obtain ⟨h1, h2⟩ := bW_spec h
  exact ⟨kno_inj (Nat.eq_of_beq_eq_true h1), h2⟩

/-- Operators on integers. -/
def intOp (op : BinOp) (k : IntKind) (a b : Int) (K : Value → Prop) : Prop :=
  match op with
  | .add => K (.int k (k.wrap (a + b)))
  | .sub => K (.int k (k.wrap (a - b)))
  | .mul => K (.int k (k.wrap (a * b)))
  | .quo => b ≠ 0 ∧ K (.int k (k.wrap (a.tdiv b)))
  | .rem => b ≠ 0 ∧ K (.int k (a.tmod b))
  | .and => K (.int k (bits .and k a b))
  | .or => K (.int k (bits .or k a b))
  | .xor => K (.int k (bits .xor k a b))
  | .andNot => K (.int k (bits .andNot k a b))
  | .eql => K (.bool (a == b))
  | .neq => K (.bool (a != b))
  | .lss => K (.bool (decide (a < b)))
  | .leq => K (.bool (decide (a ≤ b)))
  | .gtr => K (.bool (decide (a > b)))
  | .geq => K (.bool (decide (a ≥ b)))
  | _ => False

def shiftOp (op : BinOp) (k : IntKind) (a b : Int) (K : Value → Prop) : Prop :=
  match op with
  | .shl => 0 ≤ b ∧ K (.int k (k.wrap (a * 2 ^ (min b.toNat k.bits))))
  | .shr => 0 ≤ b ∧ K (.int k (a.fdiv (2 ^ (min b.toNat k.bits))))
  | _ => False

def strOp (op : BinOp) (a b : ByteArray) (K : Value → Prop) : Prop :=
  match op with
  | .add => ((a.size + b.size : Nat) : Int) ≤ 9223372036854775807 ∧ K (.string (a ++ b))
  | .eql => K (.bool (a.toList == b.toList))
  | .neq => K (.bool (!(a.toList == b.toList)))
  | .lss => K (.bool (Op.bytesLess a.toList b.toList))
  | .leq => K (.bool (Op.bytesLess a.toList b.toList || a.toList == b.toList))
  | .gtr => K (.bool (!(Op.bytesLess a.toList b.toList || a.toList == b.toList)))
  | .geq => K (.bool (!(Op.bytesLess a.toList b.toList)))
  | _ => False

def isSh : BinOp → Bool | .shl => true | .shr => true | _ => false

/-- '==' and '!=' against nil, and on bools. -/
def eqW (op : BinOp) (b : Bool) (K : Value → Prop) : Prop :=
  match op with
  | .eql => K (.bool b)
  | .neq => K (.bool (!b))
  | _ => False

/-- What the comparison of two values of other kinds yields, told by the run itself. -/
def eqlRun (P : Program) (op : BinOp) (t : TypeId) (x y : Value) (w : World) (b : Bool) : Prop :=
  ∀ (xo yo : Operand) (w' : World), w'.heap = w.heap → (do eqGuard op t xo yo x y; binOp op t x y : Sem Value).run P w' = .ok (.bool b) w'

def binW (P : Program) (T : TypeId → Option TI) (op : BinOp) (t : TypeId) (x y : Value) (w : World) (K : Value → Prop) : Prop :=
  tyW T t fun ti =>
  match ti.kd with
  | .struct _ => ∃ b : Bool, eqlRun P op t x y w b ∧ K (.bool b)
  | .array _ _ => ∃ b : Bool, eqlRun P op t x y w b ∧ K (.bool b)
  | .func => ∃ b : Bool, eqlRun P op t x y w b ∧ K (.bool b)
  | .iface => ∃ b : Bool, eqlRun P op t x y w b ∧ K (.bool b)
  | .bool => onBool x fun a => onBool y fun b => eqW op (a == b) K
  | .ptr _ => onPtr x fun a => onPtr y fun b => (match b with | none => eqW op a.isNone K | some _ => ∃ b : Bool, eqlRun P op t x y w b ∧ K (.bool b))
  | .map _ _ => onMap x fun a => onMap y fun b => (match b with | none => eqW op a.isNone K | some _ => False)
  | .slice _ => (match x with | .slice a _ _ => (match y with | .slice b _ _ => (match b with | none => eqW op a.isNone K | some _ => False) | _ => False) | _ => False)
  | .int _ => onInt x fun k a => onInt y fun k' b => (match isSh op with | true => shiftOp op k a b K | false => sameK k k' (intOp op k a b K))
  | .string => (match x with | .string a => (match y with | .string b => strOp op a b K | _ => False) | _ => False)
  | _ => False

def unW (op : UnOp) (x : Value) (K : Value → Prop) : Prop :=
  match op with
  | .not => onBool x fun b => K (.bool (!b))
  | .neg => onInt x fun k n => K (.int k (k.wrap (0 - n)))
  | _ => False

def convW (T : TypeId → Option TI) (s d : TypeId) (x : Value) (K : Value → Prop) : Prop :=
  tyW T s fun _ => tyW T d fun i =>
  match x with
  | .int _ n => (match i.kd with | .int k => K (.int k (k.wrap n)) | _ => False)
  | .string s => (match i.kd with | .string => K (.string s) | _ => False)
  | _ => False

/-- The byte at a place. -/
def bt (s : ByteArray) (i : Int) : Int := (((s.data.toList.getD i.toNat 0).toNat : Nat) : Int)

def idxAddrW (T : TypeId → Option TI) (t : TypeId) (x i : Value) (K : Value → Prop) : Prop :=
  onInt i fun _ n => tyW T t fun ti =>
  match ti.kd with
  | .slice e => tyW T e fun te => (match x with | .slice b len _ => (0 ≤ n ∧ n < len) ∧ ptrW b fun a => K (.pointer (some (a.add (n.toNat * te.size)))) | _ => False)
  | .array len e => tyW T e fun te => onPtr x fun b => ptrW b fun a => (0 ≤ n ∧ n < (len : Int)) ∧ K (.pointer (some (a.add (n.toNat * te.size))))
  | _ => False

def idxW (T : TypeId → Option TI) (t : TypeId) (x i : Value) (K : Value → Prop) : Prop :=
  onInt i fun _ n => tyW T t fun ti =>
  match ti.kd with
  | .string => (match x with | .string s => (0 ≤ n ∧ n < (s.size : Int)) ∧ K (.int .u8 (bt s n)) | _ => False)
  | .array len e => tyW T e fun te => onAgg x fun l => (0 ≤ n ∧ n < (len : Int)) ∧ (match te.sh with | .pt (.one c) => c.ex fun v => l[n.toNat]? = some v ∧ K v | _ => False)
  | _ => False

/-- How many entries a map's value has. -/
def mapLen (w : World) (r : Option Nat) (n : Nat) : Prop := match r with | none => n = 0 | some b => ∃ es clk, w.heap[b]? = some (.map es clk) ∧ es.size = n

def lenW (T : TypeId → Option TI) (t : TypeId) (x : Value) (w : World) (K : Value → Prop) : Prop :=
  tyW T t fun ti =>
  match ti.kd with
  | .string => (match x with | .string s => K (.int .i64 s.size) | _ => False)
  | .slice _ => (match x with | .slice _ n _ => K (.int .i64 n) | _ => False)
  | .array n _ => K (.int .i64 n)
  | .map _ _ => onMap x fun r => ∃ n : Nat, mapLen w r n ∧ K (.int .i64 n)
  | _ => False

def capW (T : TypeId → Option TI) (t : TypeId) (x : Value) (K : Value → Prop) : Prop :=
  tyW T t fun ti =>
  match ti.kd with
  | .slice _ => (match x with | .slice _ _ c => K (.int .i64 c) | _ => False)
  | _ => False

/-- A slice's bound: left out, or an integer. -/
def bndW (v : Option Value) (d : Int) (X : Int → Prop) : Prop := match v with | none => X d | some v => onInt v fun _ n => X n

def sliceW (T : TypeId → Option TI) (t : TypeId) (x : Value) (lo hi mx : Option Value) (K : Value → Prop) : Prop :=
  bW (hi.isSome || mx.isNone) <| tyW T t fun ti =>
  match ti.kd with
  | .string => (match x with
    | .string s => (match mx with | none => bndW lo 0 fun l => bndW hi s.size fun h => (0 ≤ l ∧ l ≤ h ∧ h ≤ (s.size : Int)) ∧ K (.string (s.extract l.toNat h.toNat)) | some _ => False)
    | _ => False)
  | .slice e => tyW T e fun te => (match x with
    | .slice a len cap => bndW lo 0 fun l => bndW hi len fun h => bndW mx cap fun m => (0 ≤ l ∧ l ≤ h ∧ h ≤ m ∧ m ≤ (cap : Int)) ∧
        K (.slice (if m.toNat = l.toNat then a else a.map (·.add (l.toNat * te.size))) (h.toNat - l.toNat) (m.toNat - l.toNat))
    | _ => False)
  | .array n e => tyW T e fun te => onPtr x fun p => ptrW p fun a => (match mx with | none => bndW lo 0 fun l => bndW hi n fun h => (0 ≤ l ∧ l ≤ h ∧ h ≤ (n : Int)) ∧ K (.slice (some (if n = l.toNat then a else a.add (l.toNat * te.size))) (h.toNat - l.toNat) (n - l.toNat)) | some _ => False)
  | _ => False

/-- The larger, the smaller of two integers, as Go's max and min have them. -/
def maxW : List Value → IntKind → Int → (Value → Prop) → Prop
  | [], k, a, K => K (.int k a)
  | v :: vs, k, a, K => onInt v fun _ b => maxW vs k (if b > a then b else a) K
def minW : List Value → IntKind → Int → (Value → Prop) → Prop
  | [], k, a, K => K (.int k a)
  | v :: vs, k, a, K => onInt v fun _ b => minW vs k (if b < a then b else a) K

/-- Key against key, as a map with integer or string keys looks them up. -/
def keyEq : Value → Value → Bool
  | .int j a, .int k b => Nat.beq (kno j) (kno k) && a == b
  | .string a, .string b => a == b
  | _, _ => false
def mfind (k : Value) : List MapEntry → Option Value
  | [] => none
  | e :: es => if keyEq k e.key then some e.val else mfind k es
/-- All keys are of the make of this one. -/
def likeKey : Value → Value → Prop
  | .int j _, .int k _ => j = k
  | .string _, .string _ => True
  | _, _ => False
def keysLike (k : Value) (es : List MapEntry) : Prop := ∀ e ∈ es, likeKey k e.key
def kdKey : KD → Value → Bool
  | .int k, .int j _ => Nat.beq (kno k) (kno j)
  | .string, .string _ => true
  | _, _ => false

/-- What a map's value reads: nil reads as the empty map. -/
def mapAt (w : World) (r : Option Nat) (es : List MapEntry) : Prop := match r with | none => es = [] | some b => ∃ a clk, w.heap[b]? = some (.map a clk) ∧ a.toList = es

/-- What a look-up hands back. -/
def okV : Bool → Value → Bool → Value
  | true, v, b => .tuple ⟨[v, .bool b]⟩
  | false, v, _ => v

def lookW (T : TypeId → Option TI) (t : TypeId) (x k : Value) (ok : Bool) (w : World) (K : Value → Prop) : Prop :=
  onMap x fun r => tyW T t fun ti =>
  match ti.kd with
  | .map kt et => tyW T kt fun tk => tyW T et fun te => bW (kdKey tk.kd k) (∃ es, mapAt w r es ∧ keysLike k es ∧
      te.sh.ex fun v => ∃ b : Bool, mfind k es = (if b then some v else none) ∧ (b = false → v = te.zero) ∧ K (okV ok v b))
  | _ => False

/-- A call that leaves memory as it was, and answers so. -/
def qcall (P : Program) (g : FuncId) (args : Array Value) (w : World) (v : Value) : Prop :=
  ∀ n, Calls P g args (w.drewN n) fun e w' => e = .returned v ∧ ∃ m, w' = w.drewN m
def callQ (P : Program) (g : FuncId) (args : List Value) (s : Sh) (w : World) (K : Value → Prop) : Prop :=
  s.ex fun v => qcall P g ⟨args⟩ w v ∧ K v

/-- The operations that only read. -/
def vcQ (P : Program) (T : TypeId → Option TI) (o : Oper) (ρ : Operand → Value) (w : World) (K : Value → Prop) : Prop :=
  match o.op with
  | .move x => K (ρ x)
  | .assign x => K (ρ x)
  | .pick c a b => onBool (ρ c) fun v => bcase v (K (ρ a)) (K (ρ b))
  | .extract t i => onTup (ρ t) fun l => lgetW l i K
  | .nilCheck x => onPtr (ρ x) fun p => ptrW p fun a => K (.pointer (some a))
  | .load t x => onPtr (ρ x) fun p => ptrW p fun a => tyW T t fun i => loadW i.sh a w K
  | .fieldAddr s x f => onPtr (ρ x) fun p => ptrW p fun a => tyW T s fun i => onStruct i.kd fun fs => nthF fs f fun off ft => tyW T ft fun fi => bW (Nat.blt 0 fi.size) (K (.pointer (some (a.add off))))
  | .field s x f => onAgg (ρ x) fun l => tyW T s fun i => onStruct i.kd fun fs => nthF fs f fun off ft => tyW T ft fun fi => partW fi off l K
  | .indexAddr t x i => idxAddrW T t (ρ x) (ρ i) K
  | .index t x i => idxW T t (ρ x) (ρ i) K
  | .slice t x lo hi mx => sliceW T t (ρ x) (lo.map ρ) (hi.map ρ) (mx.map ρ) K
  | .binOp op t x y _ => binW P T op t (ρ x) (ρ y) w K
  | .unOp op _ x => unW op (ρ x) K
  | .convert s d x => convW T s d (ρ x) K
  | .makeFunc fn first captured => K (.func fn ⟨first.toList.map ρ⟩ ⟨captured.toList.map ρ⟩)
  | .lookup t x k ok => lookW T t (ρ x) (ρ k) ok w K
  | .call c => (match c.callee with
    | .builtin .len => (match c.args.toList, c.argTypes.toList with | [x], [t] => lenW T t (ρ x) w K | _, _ => False)
    | .builtin .cap => (match c.args.toList, c.argTypes.toList with | [x], [t] => capW T t (ρ x) K | _, _ => False)
    | .builtin .max => (match c.args.toList with | x :: l => onInt (ρ x) fun k a => maxW (l.map ρ) k a K | _ => False)
    | .builtin .min => (match c.args.toList with | x :: l => onInt (ρ x) fun k a => minW (l.map ρ) k a K | _ => False)
    | _ => False)
  | _ => False

end Go.Proofs.YtgepmlgkeljelaaGreat.Vc
