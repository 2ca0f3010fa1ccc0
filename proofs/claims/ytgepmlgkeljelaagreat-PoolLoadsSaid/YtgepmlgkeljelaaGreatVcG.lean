/- Regions that draw their order, by stages: the conditions are enough. -/
import Derived.Test.YtgepmlgkeljelaaGreatVcSs
namespace Go.Proofs.YtgepmlgkeljelaaGreat.Vc
open Go

/-! ### What is looked at ahead -/
def inM (i : Nat) (m : Nat) : Bool := Nat.testBit m i
def addM (i : Nat) (m : Nat) : Nat := Nat.lor m (2 ^ i)
theorem inM_add {i j m : Nat} : inM j (addM i m) = (inM j m || Nat.beq i j) := by
  unfold inM addM
  have : Nat.lor m (2 ^ i) = m ||| 2 ^ i := rfl
  rw [this, Nat.testBit_or]
  congr 1
  cases hb : Nat.beq i j with
  | true => have := Nat.eq_of_beq_eq_true hb; subst this; exact Nat.testBit_two_pow_self
  | false => exact Nat.testBit_two_pow_of_ne (fun e => by subst e; simp at hb)

/-- What an operation waits for, at once. -/
def depsM : List Edge → Nat
  | [] => 0
  | e :: l => (match Region.binds .any e with | true => addM e.on (depsM l) | false => depsM l)
theorem depsM_mem : ∀ {l : List Edge} {e : Edge}, e ∈ l → Region.binds .any e = true → inM e.on (depsM l) = true
  | x :: l, e, he, hb => by
    unfold depsM
    rcases List.mem_cons.1 he with rfl | he
    · rw [hb]; simp [inM_add]
    · cases Region.binds .any x with
      | true => simp [inM_add, depsM_mem he hb]
      | false => exact depsM_mem he hb
theorem depsM_of : ∀ {l : List Edge} {j : Nat}, inM j (depsM l) = true → ∃ e ∈ l, Region.binds .any e = true ∧ e.on = j
  | [], j, h => by simp [depsM, inM] at h
  | x :: l, j, h => by
    unfold depsM at h
    cases hb : Region.binds .any x with
    | true =>
      rw [hb] at h
      simp only [inM_add, Bool.or_eq_true] at h
      rcases h with h | h
      · obtain ⟨e, h1, h2⟩ := depsM_of h; exact ⟨e, by simp [h1], h2⟩
      · exact ⟨x, by simp, hb, Nat.eq_of_beq_eq_true h⟩
    | false => rw [hb] at h; obtain ⟨e, h1, h2⟩ := depsM_of h; exact ⟨e, by simp [h1], h2⟩
/-- All of a is in b. -/
def leM (a b : Nat) : Bool := Nat.beq (Nat.land a b) a
theorem leM_spec {a b j : Nat} (h : leM a b = true) (hj : inM j a = true) : inM j b = true := by
  have := Nat.eq_of_beq_eq_true h
  have e : a &&& b = a := this
  unfold inM at *
  rw [← e, Nat.testBit_and] at hj
  simp at hj
  exact hj.2
theorem leM_of {a b : Nat} (h : ∀ j, inM j a = true → inM j b = true) : leM a b = true := by
  unfold leM
  have : Nat.land a b = a := by
    show a &&& b = a
    apply Nat.eq_of_testBit_eq
    intro j
    rw [Nat.testBit_and]
    cases hj : a.testBit j with
    | true => have := h j hj; unfold inM at this; simp [this]
    | false => simp
  rw [this]; simp

def nthN : List Nat → Nat → Nat
  | [], _ => 0
  | x :: _, 0 => x
  | _ :: l, i + 1 => nthN l i
/-- What an operation waits for, by whatever road: as handed in; each is out of what it waits for at once. -/
def ancM (anc : List Nat) : List Edge → Nat
  | [] => 0
  | e :: l => (match Region.binds .any e with | true => Nat.lor (addM e.on (nthN anc e.on)) (ancM anc l) | false => ancM anc l)
/-- Edges lead to what stands ahead; the ancestors are right. -/
def edgesB (anc : List Nat) : Nat → List Oper → Bool
  | _, [] => true
  | i, o :: l => o.after.toList.all (fun e => !Region.binds .any e || Nat.blt e.on i) && Nat.beq (nthN anc i) (ancM anc o.after.toList) && edgesB anc (i + 1) l

def kindQ (T : TypeId → Option TI) (o : Oper) : Bool :=
  match o.op with
  | .move _ => true | .assign _ => true | .pick _ _ _ => true | .extract _ _ => true | .nilCheck _ => true | .load _ _ => true | .fieldAddr _ _ _ => true | .field _ _ _ => true
  | .indexAddr _ _ _ => true | .index _ _ _ => true | .slice _ _ _ _ _ => true | .binOp _ _ _ _ _ => true | .unOp _ _ _ => true | .makeFunc _ _ _ => true | .lookup _ _ _ _ => true | .build _ _ => true
  | .convert s d _ => !(rowT T s || rowT T d)
  | .call c => (match c.callee with | .builtin .len => true | .builtin .cap => true | .builtin .max => true | .builtin .min => true | _ => false)
  | _ => false
/-- It yields its value whatever memory holds. -/
def stillOp (T : TypeId → Option TI) (o : Oper) : Bool := pureOp T o.op || (match o.op with | .build _ _ => true | _ => false)

def dstIs (o : Oper) (d : Nat) : Bool := match o.dst with | some x => Nat.beq x d | none => false
/-- The slots that an operation looks at. -/
def looks (ops : List Oper) (o : Oper) : List Nat := (o.op.operands.toList.filterMap fun | .tmp t => some t | _ => none) ++ (match o.guard with | some (g, _) => (match nthO ops g with | some p => p.dst.toList | none => []) | none => [])
/-- Slots lie apart: each operation's own slot is its own; whoever looks at it waits for it; what one that reads looks at is written by none that it does not wait for, but by one that waits for it. -/
def pairB (T : TypeId → Option TI) (ops : List Oper) (anc : List Nat) (i : Nat) (oi : Oper) (j : Nat) (oj : Oper) : Bool :=
  Nat.beq i j || (match oi.dst with
    | none => true
    | some d => !dstIs oj d && (inM i (nthN anc j) || !kindQ T oi || !memS d (looks ops oj)) && (inM i (nthN anc j) || !kindQ T oj || !memS d (looks ops oj) || (!kindQ T oi && inM j (nthN anc i))))
def pairsB (T : TypeId → Option TI) (ops : List Oper) (anc : List Nat) (i : Nat) (oi : Oper) : Nat → List Oper → Bool
  | _, [] => true
  | j, oj :: l => pairB T ops anc i oi j oj && pairsB T ops anc i oi (j + 1) l
def slotsB (T : TypeId → Option TI) (ops : List Oper) (anc : List Nat) : Nat → List Oper → Bool
  | _, [] => true
  | i, oi :: l => (match oi.dst with | some d => !(kindQ T oi && memS d (looks ops oi)) | none => true) && pairsB T ops anc i oi 0 ops && slotsB T ops anc (i + 1) l
/-- A guard is waited for. -/
def guardsB : List Oper → Bool
  | [] => true
  | o :: l => (match o.guard with | some (g, _) => inM g (depsM o.after.toList) | none => true) && guardsB l

def firsts : Stg → List Nat
  | .w i _ _ => [i]
  | .alt a b => firsts a ++ firsts b
  | _ => []
/-- All that may come up by now is among l. -/
def coversB (D : Nat) (l : List Nat) : Nat → List Oper → Bool
  | _, [] => true
  | i, o :: r => (inM i D || !leM (depsM o.after.toList) D || memS i l) && coversB D l (i + 1) r
/-- What has been read ahead of step i, and might be read behind it, is told of. -/
def floatsB (T : TypeId → Option TI) (ops : List Oper) (anc : List Nat) (i : Nat) (fl : List Nat) : List Nat → Bool
  | [] => true
  | e :: l => (inM e (nthN anc i) || memS e fl || (match nthO ops e with | some o => stillOp T o | none => false)) && floatsB T ops anc i fl l
def fullB (n D : Nat) : Bool := Nat.beq D (2 ^ n - 1)
/-- D: what has been told of; q: what of it reads. -/
def okStg (T : TypeId → Option TI) (ops : List Oper) (anc : List Nat) : Bool → Stg → Nat → List Nat → Bool
  | top, .done, D, _ => top && coversB D [] 0 ops
  | top, .q i r, D, q => top && !inM i D && (match nthO ops i with | some o => leM (depsM o.after.toList) D && kindQ T o | none => false) && okStg T ops anc true r (addM i D) (i :: q)
  | top, .w i fl r, D, q => (!top || coversB D [i] 0 ops) && !inM i D && (match nthO ops i with | some o => leM (depsM o.after.toList) D && !kindQ T o | none => false) && floatsB T ops anc i fl q && okStg T ops anc true r (addM i D) q
  | top, .alt a b, D, q => (!top || coversB D (firsts a ++ firsts b) 0 ops) && okStg T ops anc false a D q && okStg T ops anc false b D q
def stgB (T : TypeId → Option TI) (ops : List Oper) (s : Stg × List Nat) : Bool :=
  edgesB s.2 0 ops && guardsB ops && slotsB T ops s.2 0 ops && okStg T ops s.2 true s.1 0 []

end Go.Proofs.YtgepmlgkeljelaaGreat.Vc
