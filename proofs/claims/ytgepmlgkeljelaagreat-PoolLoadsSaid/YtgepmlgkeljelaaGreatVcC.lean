/- What a piece of code asks, as a plain statement (vc). -/
import Derived.Test.YtgepmlgkeljelaaGreatVcQ
import Derived.Test.YtgepmlgkeljelaaGreatVcO
import Derived.RangeFuncRecord
namespace Go.Proofs.YtgepmlgkeljelaaGreat.Vc
open Go

/-- A run of an operation of the model, told by its own end. -/
def runV (P : Program) (s : Sem Value) (sh : Sh) (w : World) (K : Value → World → Prop) : Prop :=
  sh.ex fun v => ∃ w', s.run P w = .ok v w' ∧ K v w'
def runU (P : Program) (s : Sem Unit) (w : World) (K : Value → World → Prop) : Prop :=
  ∃ w', s.run P w = .ok () w' ∧ K undef w'

/-- Where a function value leads: a written function; its captured variables. -/
def onFunc (v : Value) (X : FuncId → List Value → List Value → Prop) : Prop := match v with | .func (.func g) ⟨first⟩ ⟨caps⟩ => X g first caps | _ => False
theorem onFunc_spec {v : Value} {X : FuncId → List Value → List Value → Prop} (h : onFunc v X) : ∃ g l r, v = .func (.func g) ⟨l⟩ ⟨r⟩ ∧ X g l r := by
  unfold onFunc at h
  split at h
  · exact ⟨_, _, _, rfl, h⟩
  · exact h.elim

/-- Yield, called: one round of the loop that the record l tells of. -/
def yieldsTo (P : Program) (l : Nat) (args : List Value) (w : World) (R : Ending → World → Prop) : Prop :=
  ∃ (f : FuncId) (tmps : Array Value) (assign body : Code), (Instr.yield l ⟨args⟩).run P w = .ok (.round l f tmps assign body) w ∧ RoundIn (anyF none) 1000 P l f tmps assign body w R

/-- A function value, called: a written function, or yield. -/
def callV (P : Program) (B : FuncId → Bool) (v : Value) (args : List Value) (w : World) (R : Ending → World → Prop) : Prop :=
  match v with
  | .func (.func g) ⟨first⟩ ⟨caps⟩ => bW (B g) (Calls P g ⟨first ++ args ++ caps⟩ w R)
  | .func (.yield l) ⟨first⟩ ⟨_⟩ => (match first with | [] => yieldsTo P l args w R | _ => False)
  | _ => False

/-- A place in a struct or an array, and the number of cells of what lies there: for 'build'. -/
def placeW (T : TypeId → Option TI) (k : KD) (i : Nat) (X : Nat → TI → Prop) : Prop :=
  match k with
  | .struct fs => nthF fs i fun off ft => tyW T ft fun fi => X off fi
  | .array _ e => tyW T e fun te => X (i * te.size) te
  | _ => False

def fillW (T : TypeId → Option TI) (k : KD) : List Value → List (Nat × Value) → (List Value → Prop) → Prop
  | cs, [], X => X cs
  | cs, (i, v) :: r, X => placeW T k i fun off ti => cellsW ti v fun l => bW (Nat.ble (off + l.length) cs.length) (fillW T k (putL cs off l) r X)

/-- A slice's type. -/
def rowT (T : TypeId → Option TI) (t : TypeId) : Bool := match T t with | some i => (match i.kd with | .slice _ => true | _ => false) | none => false

/-- All parts' types are told of. -/
def tysIn (T : TypeId → Option TI) : List (Nat × TypeId) → Bool
  | [] => true
  | (_, t) :: fs => match T t with | some _ => tysIn T fs | none => false
def partsIn (T : TypeId → Option TI) (k : KD) : Bool := match k with | .struct fs => tysIn T fs | .array _ e => (match T e with | some _ => true | none => false) | _ => false

def buildW (T : TypeId → Option TI) (t : TypeId) (parts : List (Nat × Value)) (K : Value → Prop) : Prop :=
  tyW T t fun i => bW (partsIn T i.kd) (fillW T i.kd (cellsOf i.zero) parts fun l => K (.agg ⟨l⟩))

def vcCall (P : Program) (T : TypeId → Option TI) (B : FuncId → Bool) (c : Call) (t : TypeId) (ρ : Operand → Value) (w : World) (K : Value → World → Prop) : Prop :=
  match c.callee with
  | .value f => tyW T t fun i => callV P B (ρ f) (c.args.toList.map ρ) w fun e w' => i.sh.ex fun v => e = .returned v ∧ K v w'
  | .builtin .append => tyW T t fun i => runV P (Builtin.append_ c.argTypes t ⟨c.args.toList.map ρ⟩) i.sh w K
  | .builtin .copy => tyW T t fun i => runV P (Builtin.copy_ c.argTypes t ⟨c.args.toList.map ρ⟩) i.sh w K
  | .builtin .delete => tyW T t fun i => runV P (Builtin.delete_ c.argTypes t ⟨c.args.toList.map ρ⟩) i.sh w K
  | .builtin .clear => tyW T t fun i => runV P (Builtin.clear_ c.argTypes t ⟨c.args.toList.map ρ⟩) i.sh w K
  | _ => False

def vcOp (P : Program) (T : TypeId → Option TI) (B : FuncId → Bool) (o : Oper) (ρ : Operand → Value) (w : World) (K : Value → World → Prop) : Prop :=
  match o.op with
  | .store t x v => onPtr (ρ x) fun p => ptrW p fun a => tyW T t fun i => cellsW i (ρ v) fun cs => storeW cs a 0 (K undef) w
  | .alloc t => tyW T t fun i => K (.pointer (some ⟨w.heap.size, 0, none⟩)) (w.alloc (.cells ⟨cellsOf i.zero⟩ t))
  | .box t v => tyW T t fun i => cellsW i (ρ v) fun cs => K (.pointer (some ⟨w.heap.size, 0, none⟩)) (w.alloc (.cells ⟨cs⟩ t))
  | .build t parts => buildW T t (parts.toList.map fun p => (p.1, ρ p.2)) fun v => K v w
  | .makeMap _ r => (match r with | none => K (.map (some w.heap.size)) (w.alloc (.map #[] 0)) | some _ => False)
  | .makeSlice t l c => tyW T t fun i => runV P (Instr.makeSlice t (ρ l) (ρ c)) i.sh w K
  | .buildSlice t n parts => tyW T t fun i => runV P (Instr.buildSlice t n ⟨parts.toList.map fun p => (p.1, ρ p.2)⟩) i.sh w K
  | .mapUpdate t m k x => runU P (Instr.mapUpdate t (ρ m) (ρ k) (ρ x)) w K
  | .insert t m k x => runU P (Instr.mapUpdate t (ρ m) (ρ k) (ρ x)) w K
  | .mapEntry t m k => ∃ v w', (Instr.mapEntry t (ρ m) (ρ k)).run P w = .ok v w' ∧ K v w'
  | .entryStore t m s x => runU P (Instr.entryStore t (ρ m) (ρ s) (ρ x)) w K
  | .range t x => runV P (Instr.range t (ρ x)) (.pt (.one .ptr)) w K
  | .next it isString => ∃ v w', (Instr.next (ρ it) isString o.type).run P w = .ok v w' ∧ K v w'
  | .entry it => ∃ v w', (Instr.entry (ρ it)).run P w = .ok v w' ∧ K v w'
  | .makeInterface t x => runV P (Instr.makeInterface t (ρ x)) (.pt (.one .any)) w K
  | .convert s d x => (match rowT T s || rowT T d with | true => tyW T d fun i => runV P (convert s d (ρ x)) i.sh w K | false => vcQ P T o ρ w fun v => K v w)
  | .call c => (match c.callee with
    | .value _ => vcCall P T B c o.type ρ w K
    | .builtin .append => vcCall P T B c o.type ρ w K
    | .builtin .copy => vcCall P T B c o.type ρ w K
    | .builtin .delete => vcCall P T B c o.type ρ w K
    | .builtin .clear => vcCall P T B c o.type ρ w K
    | _ => vcQ P T o ρ w fun v => K v w)
  | _ => vcQ P T o ρ w fun v => K v w

/-- One operation in a region that draws its order: it reads, or calls what reads. -/
def vcOpQ (P : Program) (T : TypeId → Option TI) (B : FuncId → Bool) (o : Oper) (ρ : Operand → Value) (w : World) (K : Value → Prop) : Prop :=
  match o.op with
  | .build t parts => buildW T t (parts.toList.map fun p => (p.1, ρ p.2)) K
  | .call c => (match c.callee with
    | .value f => onFunc (ρ f) fun g first caps => tyW T o.type fun i => bW (B g) (callQ P g (first ++ c.args.toList.map ρ ++ caps) i.sh w K)
    | _ => vcQ P T o ρ w K)
  | _ => vcQ P T o ρ w K

def nthO : List Oper → Nat → Option Oper
  | [], _ => none
  | o :: _, 0 => some o
  | _ :: l, i + 1 => nthO l i

/-- The guard of an operation: is it carried out? -/
def guardW (ops : List Oper) (g : Option (Nat × Bool)) (σ : St) (X Y : St → Prop) : Prop :=
  match g with
  | none => X σ
  | some (j, want) =>
    match nthO ops j with
    | none => Y σ
    | some o =>
      match o.dst with
      | none => Y σ
      | some d =>
        match σ d with
        | .bool b => bcase b (match want with | true => X (upd σ d (.bool true)) | false => Y (upd σ d (.bool true))) (match want with | false => X (upd σ d (.bool false)) | true => Y (upd σ d (.bool false)))
        | _ => Y σ

def vcOps (P : Program) (T : TypeId → Option TI) (B : FuncId → Bool) (ops : List Oper) (K : St → World → Prop) : List Oper → St → World → Prop
  | [], σ, w => K σ w
  | o :: rest, σ, w => guardW ops o.guard σ (fun σ => vcOp P T B o (ev σ) w fun v w' => vcOps P T B ops K rest (updo σ o.dst v) w') (fun σ => vcOps P T B ops K rest (updo σ o.dst undef) w)

def vcOpsQ (P : Program) (T : TypeId → Option TI) (B : FuncId → Bool) (ops : List Oper) (w : World) (K : St → Prop) : List Oper → St → Prop
  | [], σ => K σ
  | o :: rest, σ => guardW ops o.guard σ (fun σ => vcOpQ P T B o (ev σ) w fun v => vcOpsQ P T B ops w K rest (updo σ o.dst v)) (fun σ => vcOpsQ P T B ops w K rest (updo σ o.dst undef))

/-- A call that is laid by for the function's end. -/
def deferW (B : FuncId → Bool) (ρ : Operand → Value) (c : Call) (X : Deferred → Prop) : Prop :=
  match c.callee with
  | .value f => onFunc (ρ f) fun g first caps => bW (B g) (X { target := .fn (.func g) ⟨caps⟩, args := ⟨first ++ c.args.toList.map ρ⟩ })
  | _ => False
def vcOpsD (P : Program) (T : TypeId → Option TI) (B : FuncId → Bool) (ops : List Oper) (K : St → List Deferred → World → Prop) : List Oper → St → List Deferred → World → Prop
  | [], σ, ds, w => K σ ds w
  | o :: rest, σ, ds, w => (match o.op with
    | .defer c => (match o.guard with | none => deferW B (ev σ) c fun d => vcOpsD P T B ops K rest (updo σ o.dst undef) (d :: ds) w | some _ => False)
    | _ => guardW ops o.guard σ (fun σ => vcOp P T B o (ev σ) w fun v w' => vcOpsD P T B ops K rest (updo σ o.dst v) ds w') (fun σ => vcOpsD P T B ops K rest (updo σ o.dst undef) ds w))
def hasDefer : List Oper → Bool
  | [] => false
  | o :: l => (match o.op with | .defer _ => true | .select _ _ => true | _ => hasDefer l)
def hasSelect : List Oper → Bool
  | [] => false
  | o :: l => (match o.op with | .select _ _ => true | _ => hasSelect l)

/-! ### Regions that draw: stages -/
/-- The order in which a region is told of: what reads, as early as it may be; what writes or calls, in each order that may be. Behind a step that writes: what has been read ahead of it, and might be read behind it. -/
inductive Stg where
  | done
  | q (i : Nat) (r : Stg)
  | w (i : Nat) (fl : List Nat) (r : Stg)
  | alt (a b : Stg)

def vcOpR (P : Program) (T : TypeId → Option TI) (o : Oper) (ρ : Operand → Value) (w : World) (K : Value → Prop) : Prop :=
  match o.op with
  | .build t parts => buildW T t (parts.toList.map fun p => (p.1, ρ p.2)) K
  | _ => vcQ P T o ρ w K
def vEq (σ : St) (d : Option Nat) (v : Value) : Prop := match d with | some d => v = σ d | none => True
def stabs (P : Program) (T : TypeId → Option TI) (ops : List Oper) (σ : St) (w : World) (X : Prop) : List Nat → Prop
  | [] => X
  | i :: l => (match nthO ops i with | none => False | some o => guardW ops o.guard σ (fun σ => vcOpR P T o (ev σ) w fun v => vEq σ o.dst v) (fun _ => True)) ∧ stabs P T ops σ w X l
def vcStg (P : Program) (T : TypeId → Option TI) (B : FuncId → Bool) (ops : List Oper) (K : St → World → Prop) : Stg → St → World → Prop
  | .done, σ, w => K σ w
  | .q i r, σ, w => (match nthO ops i with | none => False | some o => guardW ops o.guard σ (fun σ => vcOpR P T o (ev σ) w fun v => vcStg P T B ops K r (updo σ o.dst v) w) (fun σ => vcStg P T B ops K r (updo σ o.dst undef) w))
  | .w i fl r, σ, w => (match nthO ops i with | none => False | some o => guardW ops o.guard σ (fun σ => vcOp P T B o (ev σ) w fun v w2 => stabs P T ops (updo σ o.dst v) w2 (vcStg P T B ops K r (updo σ o.dst v) w2) fl) (fun σ => vcStg P T B ops K r (updo σ o.dst undef) w))
  | .alt a b, σ, w => vcStg P T B ops K a σ w ∧ vcStg P T B ops K b σ w

/-- An integer type. -/
def intT (T : TypeId → Option TI) (t : TypeId) : Bool := match T t with | some i => (match i.kd with | .int _ => true | _ => false) | none => false
/-- An operation that yields its value whatever memory holds. -/
def pureOp (T : TypeId → Option TI) (op : Op) : Bool :=
  match op with
  | .move _ => true
  | .nilCheck _ => true
  | .fieldAddr _ _ _ => true
  | .indexAddr _ _ _ => true
  | .slice _ _ _ _ _ => true
  | .extract _ _ => true
  | .pick _ _ _ => true
  | .unOp _ _ _ => true
  | .convert _ _ _ => true
  | .binOp op t _ _ _ => (match op with | .add => intT T t | .sub => intT T t | .mul => intT T t | _ => false)
  | .call c => (match c.callee with
    | .builtin .len => (match c.argTypes.toList with | [t] => (match T t with | some i => (match i.kd with | .slice _ => true | .string => true | _ => false) | none => false) | _ => false)
    | _ => false)
  | _ => false

def vcOpsP (P : Program) (T : TypeId → Option TI) (w : World) (K : St → Prop) : List Oper → St → Prop
  | [], σ => K σ
  | o :: rest, σ => (match o.guard with | none => bW (pureOp T o.op) (vcQ P T o (ev σ) w fun v => vcOpsP P T w K rest (updo σ o.dst v)) | some _ => False)

/-- Some draws later. -/
def Drew (w w' : World) : Prop := ∃ n, w' = w.drewN n

/-! ### Loops and cuts: the slots that are told of -/
abbrev Slots := List (Nat × CK)
@[reducible] def Tup : Slots → Type
  | [] => Unit
  | (_, c) :: r => CKT c × Tup r
def allT : (L : Slots) → (Tup L → Prop) → Prop
  | [], X => X ()
  | (_, c) :: r, X => c.all fun x => allT r fun t => X (x, t)
def withT : (L : Slots) → St → (Tup L → Prop) → Prop
  | [], _, X => X ()
  | (i, c) :: r, σ, X => c.on (σ i) fun x => withT r σ fun t => X (x, t)
/-- The slots of L hold t; the other slots of S hold whatever they hold; the rest is as it was. -/
def memS (i : Nat) : List Nat → Bool
  | [] => false
  | j :: l => cond (Nat.beq i j) true (memS i l)
def havoc : (L : Slots) → Tup L → (S : List Nat) → (junk σ : St) → St
  | [], _, S, junk, σ => fun i => cond (memS i S) (junk i) (σ i)
  | (j, c) :: r, (x, t), S, junk, σ => fun i => cond (Nat.beq i j) (toV c x) (havoc r t S junk σ i)

abbrev Post := Exit → St → List Deferred → World → Prop

def thenP (next : St → List Deferred → World → Prop) (Q : Post) : Post
  | .normal, σ, ds, w => next σ ds w
  | .exit id, σ, ds, w => Q (.exit id) σ ds w
  | .goto l, σ, ds, w => Q (.goto l) σ ds w
  | .ret, σ, ds, w => Q .ret σ ds w
  | .panic c, σ, ds, w => Q (.panic c) σ ds w
  | .outgrown, σ, ds, w => Q .outgrown σ ds w

def blockP (id : Nat) (Q : Post) : Post
  | .exit id', σ, ds, w => cond (Nat.beq id' id) (Q .normal σ ds w) (Q (.exit id') σ ds w)
  | .normal, σ, ds, w => Q .normal σ ds w
  | .goto l, σ, ds, w => Q (.goto l) σ ds w
  | .ret, σ, ds, w => Q .ret σ ds w
  | .panic c, σ, ds, w => Q (.panic c) σ ds w
  | .outgrown, σ, ds, w => Q .outgrown σ ds w

/-- A scope: no jump to a label. -/
def scopeP (Q : Post) : Post
  | .normal, σ, ds, w => Q .normal σ ds w
  | .exit id, σ, ds, w => Q (.exit id) σ ds w
  | .goto _, _, _, _ => False
  | .ret, σ, ds, w => Q .ret σ ds w
  | .panic c, σ, ds, w => Q (.panic c) σ ds w
  | .outgrown, σ, ds, w => Q .outgrown σ ds w

/-- The first region's number in a piece of code: a piece's name. -/
def rid : Code → Nat
  | .region id _ _ => id
  | .seq a b => (match rid a with | 0 => rid b | n + 1 => n + 1)
  | .cond _ a b => (match rid a with | 0 => rid b | n + 1 => n + 1)
  | .block _ c => rid c
  | .loop c => rid c
  | .scope c => rid c
  | .rangeFunc _ _ _ c => rid c
  | _ => 0

/-- How many loops lie at the head of a piece of code, one in the other. -/
def lead : Code → Nat
  | .seq a b => (match rid a with | 0 => lead b | _ + 1 => lead a)
  | .cond _ a b => (match rid a with | 0 => lead b | _ + 1 => lead a)
  | .block _ c => lead c
  | .loop c => lead c + 1
  | _ => 0
/-- A loop's name, by its body. -/
def lid (c : Code) : Nat := rid c * 16 + lead c

structure Plan where
  loops : Nat → Slots × List Nat
  cuts : Nat → Option (Slots × List Nat)
  head : Nat → Option (List Nat × List Nat × List Nat)
  rng : Nat → List CK
  stg : Nat → Option (Stg × List Nat) := fun _ => none

/-- A condition's slot is known in each arm. -/
def known (σ : St) (c : Operand) (b : Bool) : St := match c with | .tmp t => upd σ t (.bool b) | _ => σ

/-- The deferred calls are as they were. -/
def dsW (ds' ds : List Deferred) (X : Prop) : Prop := match ds', ds with | [], [] => X | ds', ds => ds' = ds ∧ X
theorem dsW_spec {ds' ds : List Deferred} {X : Prop} (h : dsW ds' ds X) : ds' = ds ∧ X := by
  cases ds' <;> cases ds <;> first | exact ⟨rfl, h⟩ | exact h

/-- The slots that a range over a function hands its values in. -/
def updPs (σ : St) : List Tmp → List Value → St
  | p :: ps, v :: vs => updPs (upd σ p v) ps vs
  | _, _ => σ
/-- All values of these kinds. -/
def allArgs : List CK → (List Value → Prop) → Prop
  | [], X => X []
  | c :: cs, X => c.all fun x => allArgs cs fun vs => X (toV c x :: vs)
/-- Jumps out of a piece of code. -/
def dropN (i : Nat) : List Nat → List Nat
  | [] => []
  | j :: l => cond (Nat.beq i j) (dropN i l) (j :: dropN i l)
def outs : Code → List Nat
  | .exit i => [i]
  | .seq a b => outs a ++ outs b
  | .cond _ a b => outs a ++ outs b
  | .block i c => dropN i (outs c)
  | .loop c => outs c
  | .scope c => outs c
  | .rangeFunc _ _ _ c => outs c
  | _ => []

/-- A round's end. -/
def roundP (L : Nat) (rec : LoopState → Option Code → Obj) (R : Ending → World → Prop) : Post
  | .normal, _, _, w => w.heap[L]? = some (rec .busy none) ∧ R (.returned (.bool true)) (w.putObj L (rec .ready none))
  | .ret, _, _, w => w.heap[L]? = some (rec .busy none) ∧ R (.returned (.bool false)) (w.putObj L (rec .done (some .ret)))
  | .exit id, _, _, w => w.heap[L]? = some (rec .busy none) ∧ R (.returned (.bool false)) (w.putObj L (rec .done (some (.exit id))))
  | _, _, _, _ => False
/-- Behind the function that was ranged over: where the loop goes on. -/
def jumpW (L : Nat) (rec : LoopState → Option Code → Obj) (Q : Post) (σ : St) (ds : List Deferred) (w : World) : List Nat → Prop
  | [] => ((∃ st, st ≠ .busy ∧ w.heap[L]? = some (rec st none) ∧ Q .normal σ ds (w.putObj L (rec .exhausted none))) ∨
      (∃ st, st ≠ .busy ∧ w.heap[L]? = some (rec st (some .ret)) ∧ Q .ret σ ds (w.putObj L (rec .exhausted (some .ret)))))
  | i :: l => (∃ st, st ≠ .busy ∧ w.heap[L]? = some (rec st (some (.exit i))) ∧ Q (.exit i) σ ds (w.putObj L (rec .exhausted (some (.exit i))))) ∨ jumpW L rec Q σ ds w l
def noP : Post := fun _ _ _ _ => False
def vc (P : Program) (T : TypeId → Option TI) (B : FuncId → Bool) (pl : Plan) (RF : Code → Post → St → List Deferred → World → Prop) : Code → Bool → Post → St → List Deferred → World → Prop
  | .skip, _, Q, σ, ds, w => Q .normal σ ds w
  | .label _, _, Q, σ, ds, w => Q .normal σ ds w
  | .region id ops draw, top, Q, σ, ds, w =>
    match draw with
    | false => (match hasDefer ops.toList with
      | false => vcOps P T B ops.toList (fun σ' w' => Q .normal σ' ds w') ops.toList σ w
      | true => bW top (vcOpsD P T B ops.toList (fun σ' ds' w' => Q .normal σ' ds' w') ops.toList σ ds w))
    | true => (match pl.head id with
      | some (pre, qs, ts) => vcOpsP P T w (fun σ1 => vcOpsQ P T B ops.toList w (fun σ' => ∀ w', Drew w w' → vcOps P T B ops.toList (fun σ'' w'' => Q .normal σ'' ds w'') (getOps ops ts) σ' w') (getOps ops qs) σ1) (getOps ops pre) σ
      | none => (match pl.stg id with
        | some (s, _) => ∀ w', Drew w w' → vcStg P T B ops.toList (fun σ' w'' => Q .normal σ' ds w'') s σ w'
        | none => RF (.region id ops true) Q σ ds w))
  | .seq x y, top, Q, σ, ds, w =>
    match pl.cuts (rid y) with
    | none => vc P T B pl RF x top (thenP (fun σ' ds' w' => vc P T B pl RF y top Q σ' ds' w') Q) σ ds w
    | some (L, S) => ∃ J : Tup L → World → Prop, vc P T B pl RF x top (thenP (fun σ' ds' w' => dsW ds' ds (withT L σ' fun t => J t w')) Q) σ ds w ∧
        ∀ junk : St, allT L fun t => ∀ w', J t w' → vc P T B pl RF y top Q (havoc L t S junk σ) ds w'
  | .cond c x y, top, Q, σ, ds, w => onBool (ev σ c) fun b => bcase b (vc P T B pl RF x top Q (known σ c true) ds w) (vc P T B pl RF y top Q (known σ c false) ds w)
  | .block id c, top, Q, σ, ds, w => vc P T B pl RF c top (blockP id Q) σ ds w
  | .scope c, top, Q, σ, ds, w => vc P T B pl RF c top (scopeP Q) σ ds w
  | .loop c, top, Q, σ, ds, w =>
    match pl.loops (lid c) with
    | (L, S) => ∃ (I : Tup L → World → Prop) (μ : Tup L → World → Nat), (withT L σ fun t => I t w) ∧
        ∀ junk : St, allT L fun t => ∀ w', I t w' →
          vc P T B pl RF c top (thenP (fun σ' ds' w'' => dsW ds' ds (withT L σ' fun t' => I t' w'' ∧ μ t' w'' < μ t w')) Q) (havoc L t S junk σ) ds w'
  | .exit id, _, Q, σ, ds, w => Q (.exit id) σ ds w
  | .ret, _, Q, σ, ds, w => Q .ret σ ds w
  | .rangeFunc g ps a c, top, Q, σ, ds, w =>
    match top with
    | false => RF (.rangeFunc g ps a c) Q σ ds w
    | true => onFunc (ev σ g) fun gf first caps => bW (B gf) (∀ (y : Value) (rec : LoopState → Option Code → Obj),
        (∀ R : Ending → World → Prop, allArgs (pl.rng (rid c)) fun xs => ∀ w', w'.heap[w.heap.size + 1]? = some (rec .ready none) →
          vc P T B pl RF a false (thenP (fun σ1 ds1 w1 => w1.heap[w.heap.size + 1]? = some (rec .ready none) ∧ vc P T B pl RF c false (roundP (w.heap.size + 1) rec R) σ1 ds1 (w1.putObj (w.heap.size + 1) (rec .busy none))) noP) (updPs σ ps.toList xs) [] w' →
          callV P B y xs w' R) →
        Calls P gf ⟨first ++ [y] ++ caps⟩ ((w.alloc (.deferred (some []))).alloc (rec .ready none)) fun e w2 => (∃ v, e = .returned v) ∧
          jumpW (w.heap.size + 1) rec Q σ ({ target := .collected w.heap.size, args := #[] } :: ds) w2 (outs c))
  | _, _, _, _, _, _ => False

end Go.Proofs.YtgepmlgkeljelaaGreat.Vc
