/- The conditions are enough: lists of operations, heads. -/
import Derived.Test.YtgepmlgkeljelaaGreatVcG
import Derived.Deep.LoopGhost
import Derived.RangeFuncIn
import Derived.RangeFuncLeaves
namespace Go.Proofs.YtgepmlgkeljelaaGreat.Vc
open Go

/-- The frame's slots are σ's, n of them. -/
def Ag (n : Nat) (a : Act) (σ : St) : Prop := a.tmps.size = n ∧ ∀ i, a.tmps.getD i undef = σ i
/-- Slots outside S are as they were. -/
def Fr (S : List Nat) (σ σ' : St) : Prop := ∀ i, memS i S = false → σ' i = σ i

def dstsOps : List Oper → List Nat
  | [] => []
  | o :: l => (match o.dst with | some d => d :: dstsOps l | none => dstsOps l)
def writes : Code → List Nat
  | .region _ ops _ => dstsOps ops.toList
  | .seq a b => writes a ++ writes b
  | .cond _ a b => writes a ++ writes b
  | .block _ c => writes c
  | .loop c => writes c
  | .scope c => writes c
  | _ => []
def subS : List Nat → List Nat → Bool
  | [], _ => true
  | i :: l, S => memS i S && subS l S
def allLt (n : Nat) : List Nat → Bool
  | [] => true
  | i :: l => Nat.blt i n && allLt n l

def slotsIn : Slots → List Nat → Bool
  | [], _ => true
  | (i, _) :: l, S => memS i S && slotsIn l S
/-- The slots that a piece writes are just S; those that are told of are among them. -/
def planOk (c : Code) (p : Slots × List Nat) : Bool := subS (writes c) p.2 && subS p.2 (writes c) && slotsIn p.1 (writes c)

/-- What of a piece of code is to be looked at ahead. -/
def codeOk (T : TypeId → Option TI) (n : Nat) (pl : Plan) : Bool → Code → Bool
  | top, .region id ops draw => allLt n (dstsOps ops.toList) && (noDefer ops || (top && !draw && hasDefer ops.toList && !hasSelect ops.toList)) && (match draw with | false => true | true => (match pl.head id with | some (pre, qs, ts) => orderB ops pre qs ts && (top || pre.isEmpty) | none => (match pl.stg id with | some s => stgB T ops.toList s | none => true)))
  | top, .seq x y => codeOk T n pl top x && codeOk T n pl top y && (match pl.cuts (rid y) with | none => true | some p => planOk x p)
  | top, .cond _ x y => codeOk T n pl top x && codeOk T n pl top y
  | top, .block _ c => codeOk T n pl top c
  | top, .scope c => codeOk T n pl top c
  | top, .loop c => codeOk T n pl top c && planOk c (pl.loops (lid c))
  | _, .rangeFunc _ ps a c => codeOk T n pl false a && codeOk T n pl false c && allLt n ps.toList && Nat.beq ps.size (pl.rng (rid c)).length
  | _, _ => true

section
variable {n : Nat}

theorem memS_append {i : Nat} : ∀ {a b : List Nat}, memS i (a ++ b) = (memS i a || memS i b)
  | [], _ => rfl
  | j :: a, b => by
    show cond (Nat.beq i j) true (memS i (a ++ b)) = (cond (Nat.beq i j) true (memS i a) || memS i b)
    cases Nat.beq i j
    · exact memS_append (a := a)
    · rfl
theorem memS_sub {i : Nat} : ∀ {a S : List Nat}, subS a S = true → memS i S = false → memS i a = false
  | [], _, _, _ => rfl
  | j :: a, S, h, hS => by
    simp only [subS, Bool.and_eq_true] at h
    show cond (Nat.beq i j) true (memS i a) = false
    cases hb : Nat.beq i j with
    | true => have := Nat.eq_of_beq_eq_true hb; subst this; rw [h.1] at hS; cases hS
    | false => exact memS_sub h.2 hS

theorem Fr.refl (S : List Nat) (σ : St) : Fr S σ σ := fun _ _ => rfl
theorem Fr.trans {S S' : List Nat} {a b c : St} (h : Fr S a b) (k : Fr S' b c) : Fr (S ++ S') a c := fun i hi => by
  rw [memS_append, Bool.or_eq_false_iff] at hi
  exact (k i hi.2).trans (h i hi.1)
theorem Fr.left {S S' : List Nat} {a b : St} (h : Fr S a b) : Fr (S ++ S') a b := fun i hi => by
  rw [memS_append, Bool.or_eq_false_iff] at hi; exact h i hi.1
theorem Fr.right {S S' : List Nat} {a b : St} (h : Fr S' a b) : Fr (S ++ S') a b := fun i hi => by
  rw [memS_append, Bool.or_eq_false_iff] at hi; exact h i hi.2

theorem Ag.eval {a : Act} {σ : St} (h : Ag n a σ) : a.eval = ev σ := by
  funext x
  cases x <;> first | rfl | exact h.2 _

theorem Ag.put {a : Act} {σ : St} (h : Ag n a σ) {d : Option Tmp} (hd : ∀ x, d = some x → x < n) (v : Value) : Ag n (a.put d v) (updo σ d v) := by
  cases d with
  | none => exact h
  | some x =>
    have hx := hd x rfl
    refine ⟨by simp [Act.put, h.1], fun i => ?_⟩
    show (a.tmps.setIfInBounds x v).getD i undef = cond (Nat.beq i x) v (σ i)
    cases hb : Nat.beq i x with
    | true =>
      have := Nat.eq_of_beq_eq_true hb; subst this
      simp [h.1, hx]
    | false =>
      have hne : x ≠ i := fun e => by subst e; simp at hb
      rw [← h.2 i]
      simp [Array.getElem?_setIfInBounds_ne hne]
theorem Ag.congr {a : Act} {σ σ' : St} (h : Ag n a σ) (e : ∀ i, σ i = σ' i) : Ag n a σ' := ⟨h.1, fun i => (h.2 i).trans (e i)⟩
theorem Ag.eq {a : Act} {σ σ' : St} (h : Ag n a σ) (h' : Ag n a σ') : σ = σ' := funext fun i => (h.2 i).symm.trans (h'.2 i)

theorem updo_frame {σ : St} {d : Option Nat} {v : Value} {i : Nat} (h : ∀ x, d = some x → Nat.beq i x = false) : updo σ d v i = σ i := by
  cases d with
  | none => rfl
  | some x => show cond (Nat.beq i x) v (σ i) = σ i; rw [h x rfl]; rfl

theorem upd_known {σ : St} {t : Nat} {v : Value} (h : σ t = v) : ∀ i, upd σ t v i = σ i := fun i => by
  show cond (Nat.beq i t) v (σ i) = σ i
  cases hb : Nat.beq i t with
  | true => have := Nat.eq_of_beq_eq_true hb; subst this; exact h.symm
  | false => rfl

/-! ### Guards -/
theorem nthO_get : ∀ (l : List Oper) (i : Nat), nthO l i = l[i]?
  | [], i => by simp [nthO]
  | o :: l, 0 => rfl
  | o :: l, i + 1 => by simpa [nthO] using nthO_get l i

theorem yielded_eq {ops : Array Oper} {a : Act} {σ : St} (h : Ag n a σ) (hd : allLt n (dstsOps ops.toList) = true) (j : Nat) : yielded ops a.tmps j = (match nthO ops.toList j with
    | none => none
    | some o => match o.dst with | none => none | some d => match σ d with | .bool b => some b | _ => none) := by
  unfold yielded
  rw [nthO_get, Array.getElem?_toList]
  cases ho : ops[j]? with
  | none => rfl
  | some o =>
    simp only [Option.bind_some]
    cases hod : o.dst with
    | none => rfl
    | some d =>
      have hlt : d < n := by
        have hm : o ∈ ops.toList := by rw [← Array.mem_def]; exact Array.mem_of_getElem? ho
        have : ∀ (l : List Oper), o ∈ l → allLt n (dstsOps l) = true → d < n := by
          intro l
          induction l with
          | nil => intro h; cases h
          | cons x l ih =>
            intro hm hl
            unfold dstsOps at hl
            rcases List.mem_cons.1 hm with rfl | hm'
            · rw [hod] at hl; simp only [allLt, Bool.and_eq_true] at hl; exact Nat.le_of_ble_eq_true hl.1
            · cases hx : x.dst with
              | none => rw [hx] at hl; exact ih hm' hl
              | some y => rw [hx] at hl; simp only [allLt, Bool.and_eq_true] at hl; exact ih hm' hl.2
        exact this _ hm hd
      simp only [Option.bind_some]
      have hs : a.tmps[d]? = some (σ d) := by
        rw [← h.2 d]
        have hlt' : d < a.tmps.size := by rw [h.1]; exact hlt
        simp [hlt']
      rw [hs]
      cases σ d <;> rfl

theorem guardW_spec {ops : Array Oper} {g : Option (Nat × Bool)} {a : Act} {σ : St} {X Y : St → Prop} (hag : Ag n a σ) (hd : allLt n (dstsOps ops.toList) = true) (h : guardW ops.toList g σ X Y) {o : Oper} (hg : o.guard = g) :
    ∃ σ', (∀ i, σ' i = σ i) ∧ ((Region.wanted o (yielded ops a.tmps) = true ∧ X σ') ∨ (Region.wanted o (yielded ops a.tmps) = false ∧ Y σ')) := by
  unfold guardW at h
  unfold Region.wanted
  rw [hg]
  cases g with
  | none => exact ⟨σ, fun _ => rfl, .inl ⟨rfl, h⟩⟩
  | some p =>
    obtain ⟨j, want⟩ := p
    simp only at h ⊢
    rw [yielded_eq hag hd j]
    cases hn : nthO ops.toList j with
    | none => rw [hn] at h; exact ⟨σ, fun _ => rfl, .inr ⟨by simp, h⟩⟩
    | some o' =>
      rw [hn] at h
      simp only at h ⊢
      cases hdst : o'.dst with
      | none => rw [hdst] at h; exact ⟨σ, fun _ => rfl, .inr ⟨by simp, h⟩⟩
      | some d =>
        rw [hdst] at h
        simp only at h ⊢
        cases hs : σ d <;> rw [hs] at h <;> simp only at h ⊢ <;> try exact ⟨σ, fun _ => rfl, .inr ⟨by simp, h⟩⟩
        rename_i b
        refine ⟨upd σ d (.bool b), upd_known hs, ?_⟩
        cases b <;> cases want <;> simp only [bcase] at h
        · exact .inl ⟨rfl, h⟩
        · exact .inr ⟨rfl, h⟩
        · exact .inr ⟨rfl, h⟩
        · exact .inl ⟨rfl, h⟩

/-! ### Lists of operations -/
variable {P : Program} {T : TypeId → Option TI} {B : FuncId → Bool}

/-- What is said of a round hangs on no fence that lets all in. -/
theorem round_any {l' l : Option Nat} {k k' : Nat} {L : Nat} {f : FuncId} {tmps : Array Value} {assign body : Code} {w : World} {R : Ending → World → Prop} (h : RoundIn (anyF l) k P L f tmps assign body w R) : RoundIn (anyF l') k' P L f tmps assign body w R :=
  ⟨trivial, fun c cs _ => h.2 c cs (fun d hd => by simp [anyF, Fence.wide] at hd)⟩

theorem ends_wpIn {o : Oper} {a : Act} {w : World} {K : Value → World → Prop} {l : Option Nat} {k : Nat} {next : Act → World → Prop} {Q : Exit → Act → World → Prop} (hd : ∀ c, o.op ≠ .defer c) (h : Ends P (execOp a.eval o) w K)
    (hn : ∀ v w', K v w' → next (a.put o.dst v) w') : o.wpIn (anyF l) k P a w next Q := by
  refine ⟨fun _ _ => trivial, ?_⟩
  rw [show (anyF l).round = l from rfl, mode_of hd]
  rcases h with ⟨v, w', hr, hK⟩ | ⟨w', hr, hK⟩ | ⟨g, args, hr, hc⟩ | ⟨l', f, tmps, assign, body, hr, hc⟩
  · rw [hr]; exact hn _ _ hK
  · rw [hr]; exact hn _ _ hK
  · rw [hr]
    refine ⟨fun h => by simp [anyF, Fence.wide] at h, callsIn_any (hc.mono ?_)⟩
    rintro e w' ⟨v, rfl, hK⟩
    exact hn _ _ hK
  · rw [hr]
    refine ⟨fun h => by simp [anyF, Fence.wide] at h, RoundIn.mono (round_any hc) ?_⟩
    rintro e w' ⟨v, rfl, hK⟩
    exact hn _ _ hK

theorem vcOps_sound (hT : TabOk P T) (hB : ∀ g, B g = true → ∀ args w, (callFunc g args).run P w = .ok (.enter g args) w) {ops : Array Oper} (hall : allLt n (dstsOps ops.toList) = true) (hnd : noDefer ops = true) {l : Option Nat} {k : Nat}
    {K : St → World → Prop} {Q' : Exit → Act → World → Prop} {ds : List Deferred} {S : List Nat} {σ0 : St} (hQ : ∀ a' σ' w', Ag n a' σ' → a'.defers = ds → Fr S σ0 σ' → K σ' w' → Q' .normal a' w') :
    ∀ (rest : List Oper), (∀ o ∈ rest, o ∈ ops) → (∀ i, memS i S = false → memS i (dstsOps rest) = false) → ∀ (σ : St) (w : World) (a : Act), vcOps P T B ops.toList K rest σ w → Ag n a σ → a.defers = ds → Fr S σ0 σ → wpListIn (anyF l) k P ops Q' rest a w
  | [], _, _, σ, w, a, h, hag, hds, hf => hQ a σ w hag hds hf h
  | o :: rest, hm, hS, σ, w, a, h, hag, hds, hf => by
    have ho := hm o (by simp)
    have hod : ∀ c, o.op ≠ .defer c := by
      obtain ⟨i, hi⟩ := Array.getElem?_of_mem ho
      exact noDefer_spec hnd hi
    have hdlt : ∀ x, o.dst = some x → x < n := by
      intro d hod
      have hm' : o ∈ ops.toList := by rw [← Array.mem_def]; exact ho
      have : ∀ (l : List Oper), o ∈ l → allLt n (dstsOps l) = true → d < n := by
        intro l
        induction l with
        | nil => intro h; cases h
        | cons x l ih =>
          intro hm hl
          unfold dstsOps at hl
          rcases List.mem_cons.1 hm with rfl | hm'
          · rw [hod] at hl; simp only [allLt, Bool.and_eq_true] at hl; exact Nat.le_of_ble_eq_true hl.1
          · cases hx : x.dst with
            | none => rw [hx] at hl; exact ih hm' hl
            | some y => rw [hx] at hl; simp only [allLt, Bool.and_eq_true] at hl; exact ih hm' hl.2
      exact this _ hm' hall
    have hS1 : ∀ i, memS i S = false → ∀ x, o.dst = some x → Nat.beq i x = false := by
      intro i hi x hx
      have := hS i hi
      unfold dstsOps at this
      rw [hx] at this
      simp only [memS] at this
      cases hb : Nat.beq i x with
      | true => rw [hb] at this; cases this
      | false => rfl
    have hS2 : ∀ i, memS i S = false → memS i (dstsOps rest) = false := by
      intro i hi
      have := hS i hi
      unfold dstsOps at this
      cases hx : o.dst with
      | none => rw [hx] at this; exact this
      | some x =>
        rw [hx] at this
        simp only [memS] at this
        cases hb : Nat.beq i x with
        | true => rw [hb] at this; cases this
        | false => rw [hb] at this; exact this
    obtain ⟨σ', he, hcase⟩ := guardW_spec hag hall h rfl
    have hag' : Ag n a σ' := hag.congr fun i => (he i).symm
    have hf' : Fr S σ0 σ' := fun i hi => (he i).trans (hf i hi)
    have next : ∀ v w', vcOps P T B ops.toList K rest (updo σ' o.dst v) w' → wpListIn (anyF l) k P ops Q' rest (a.put o.dst v) w' := fun v w' hv =>
      vcOps_sound hT hB hall hnd hQ rest (fun x hx => hm x (by simp [hx])) hS2 _ _ _ hv (hag'.put hdlt v) (by cases o.dst <;> exact hds) (fun i hi => (updo_frame (hS1 i hi)).trans (hf' i hi))
    unfold wpListIn
    rcases hcase with ⟨hw, hx⟩ | ⟨hw, hy⟩
    · rw [if_pos hw]
      have := vcOp_run hT hB hx
      rw [← hag'.eval] at this
      exact ends_wpIn hod this next
    · rw [if_neg (by rw [hw]; simp)]
      exact ⟨fun _ _ => trivial, next _ _ hy⟩

theorem hasDefer_no {ops : Array Oper} (h : hasDefer ops.toList = false) : noDefer ops = true := by
  unfold noDefer
  rw [Array.all_eq_true']
  intro o ho
  have : ∀ (l : List Oper), o ∈ l → hasDefer l = false → (match o.op with | .defer _ => false | .select _ _ => false | _ => true) = true := by
    intro l
    induction l with
    | nil => intro h; cases h
    | cons x l ih =>
      intro hm hl
      unfold hasDefer at hl
      rcases List.mem_cons.1 hm with rfl | hm
      · split at hl <;> first | cases hl | (split <;> simp_all)
      · split at hl <;> first | cases hl | exact ih hm hl
  exact this _ (by simpa using ho) h
theorem hasSelect_no {l : List Oper} (h : hasSelect l = false) : ∀ o ∈ l, ∀ a b, o.op ≠ .select a b := by
  induction l with
  | nil => intro o ho; cases ho
  | cons x l ih =>
    intro o ho a b e
    unfold hasSelect at h
    rcases List.mem_cons.1 ho with rfl | ho
    · rw [e] at h; cases h
    · split at h
      · cases h
      · exact ih h o ho a b e

theorem vcOpsD_sound (hT : TabOk P T) (hB : ∀ g, B g = true → ∀ args w, (callFunc g args).run P w = .ok (.enter g args) w) {ops : Array Oper} (hall : allLt n (dstsOps ops.toList) = true) (hnd : hasSelect ops.toList = false) {k : Nat}
    {K : St → List Deferred → World → Prop} {Q' : Exit → Act → World → Prop} {S : List Nat} {σ0 : St} (hQ : ∀ a' σ' w', Ag n a' σ' → Fr S σ0 σ' → K σ' a'.defers w' → Q' .normal a' w') :
    ∀ (rest : List Oper), (∀ o ∈ rest, o ∈ ops) → (∀ i, memS i S = false → memS i (dstsOps rest) = false) → ∀ (σ : St) (ds : List Deferred) (w : World) (a : Act), vcOpsD P T B ops.toList K rest σ ds w → Ag n a σ → a.defers = ds → Fr S σ0 σ → wpListIn (anyF none) k P ops Q' rest a w
  | [], _, _, σ, ds, w, a, h, hag, hds, hf => hQ a σ w hag hf (by rw [hds]; exact h)
  | o :: rest, hm, hS, σ, ds, w, a, h, hag, hds, hf => by
    have ho := hm o (by simp)
    have hm' : o ∈ ops.toList := by rw [← Array.mem_def]; exact ho
    have hdlt : ∀ x, o.dst = some x → x < n := by
      intro d hod
      have : ∀ (l : List Oper), o ∈ l → allLt n (dstsOps l) = true → d < n := by
        intro l
        induction l with
        | nil => intro h; cases h
        | cons x l ih =>
          intro hm hl
          unfold dstsOps at hl
          rcases List.mem_cons.1 hm with rfl | hm'
          · rw [hod] at hl; simp only [allLt, Bool.and_eq_true] at hl; exact Nat.le_of_ble_eq_true hl.1
          · cases hx : x.dst with
            | none => rw [hx] at hl; exact ih hm' hl
            | some y => rw [hx] at hl; simp only [allLt, Bool.and_eq_true] at hl; exact ih hm' hl.2
      exact this _ hm' hall
    have hS1 : ∀ i, memS i S = false → ∀ x, o.dst = some x → Nat.beq i x = false := by
      intro i hi x hx
      have := hS i hi
      unfold dstsOps at this
      rw [hx] at this
      simp only [memS] at this
      cases hb : Nat.beq i x with
      | true => rw [hb] at this; cases this
      | false => rfl
    have hS2 : ∀ i, memS i S = false → memS i (dstsOps rest) = false := by
      intro i hi
      have := hS i hi
      unfold dstsOps at this
      cases hx : o.dst with
      | none => rw [hx] at this; exact this
      | some x =>
        rw [hx] at this
        simp only [memS] at this
        cases hb : Nat.beq i x with
        | true => rw [hb] at this; cases this
        | false => rw [hb] at this; exact this
    by_cases hdef : ∃ c, o.op = .defer c
    · obtain ⟨c, hc⟩ := hdef
      unfold vcOpsD at h
      rw [hc] at h
      simp only at h
      cases hg : o.guard with
      | some g => rw [hg] at h; exact h.elim
      | none =>
        rw [hg] at h
        simp only [deferW] at h
        obtain ⟨callee, args, argTypes⟩ := c
        cases callee <;> simp only at h <;> try exact h.elim
        rename_i fv
        obtain ⟨g, first, caps, hfv, h1⟩ := onFunc_spec h
        obtain ⟨hBg, h2⟩ := bW_spec h1
        unfold wpListIn
        have hw : Region.wanted o (yielded ops a.tmps) = true := by unfold Region.wanted; rw [hg]
        rw [if_pos hw]
        refine ⟨fun _ _ => trivial, ?_⟩
        rw [show (anyF none).round = none from rfl, Oper.semAt_none]
        have hrun : (execOp a.eval o).run P w = .ok (.defer { target := .fn (.func g) ⟨caps⟩, args := ⟨first ++ args.toList.map a.eval⟩ }) w := by
          obtain ⟨dst, op, type, pos, after, guard⟩ := o
          simp only at hc
          subst hc
          simp only [execOp, resolve]
          rw [hag.eval] at *
          rw [hfv]
          simp only [Deferred.ofValue, Sem.run_bind, Sem.run_pure, Result.andThen]
          congr 3
          apply Array.toList_inj.1; simp
        rw [hrun, Oper.uponIn_defer]
        rw [hag.eval]
        refine vcOpsD_sound hT hB hall hnd hQ rest (fun x hx => hm x (by simp [hx])) hS2 _ _ w _ h2 ?_ ?_ (fun i hi => (updo_frame (hS1 i hi)).trans (hf i hi))
        · exact Ag.put (show Ag n { a with defers := _ :: a.defers } σ from hag) hdlt undef
        · rw [← hds]; cases o.dst <;> rfl
    · have hod : ∀ c, o.op ≠ .defer c := fun c hc => hdef ⟨c, hc⟩
      have h' : guardW ops.toList o.guard σ (fun σ => vcOp P T B o (ev σ) w fun v w' => vcOpsD P T B ops.toList K rest (updo σ o.dst v) ds w') (fun σ => vcOpsD P T B ops.toList K rest (updo σ o.dst undef) ds w) := by
        unfold vcOpsD at h
        split at h
        · rename_i c hc; exact absurd hc (hod c)
        · exact h
      obtain ⟨σ', he, hcase⟩ := guardW_spec hag hall h' rfl
      have hag' : Ag n a σ' := hag.congr fun i => (he i).symm
      have hf' : Fr S σ0 σ' := fun i hi => (he i).trans (hf i hi)
      have next : ∀ v w', vcOpsD P T B ops.toList K rest (updo σ' o.dst v) ds w' → wpListIn (anyF none) k P ops Q' rest (a.put o.dst v) w' := fun v w' hv =>
        vcOpsD_sound hT hB hall hnd hQ rest (fun x hx => hm x (by simp [hx])) hS2 _ _ _ _ hv (hag'.put hdlt v) (by rw [← hds]; cases o.dst <;> rfl) (fun i hi => (updo_frame (hS1 i hi)).trans (hf' i hi))
      unfold wpListIn
      rcases hcase with ⟨hw, hx⟩ | ⟨hw, hy⟩
      · rw [if_pos hw]
        have := vcOp_run hT hB hx
        rw [← hag'.eval] at this
        exact ends_wpIn hod this next
      · rw [if_neg (by rw [hw]; simp)]
        exact ⟨fun _ _ => trivial, next _ _ hy⟩

/-- A list of operations, and the same by their numbers. -/
theorem wpOpsIn_of_list {F : Fence} {k : Nat} {ops : Array Oper} {Q : Exit → Act → World → Prop} : ∀ (l : List Oper) (i : Nat) (a : Act) (w : World), (∀ j, l[j]? = ops[i + j]?) → wpListIn F k P ops Q l a w → wpOpsIn F k P ops Q (List.range' i l.length) a w
  | [], _, _, _, _, h => h
  | o :: l, i, a, w, hl, h => by
    have h0 : ops[i]? = some o := by simpa using (hl 0).symm
    have hl' : ∀ j, l[j]? = ops[i + 1 + j]? := fun j => by have := hl (j + 1); simpa [Nat.add_assoc, Nat.add_comm 1 j] using this
    simp only [List.length_cons, List.range'_succ]
    unfold wpListIn at h
    unfold wpOpsIn
    rw [h0]
    simp only
    split
    · rename_i hw
      rw [if_pos hw] at h
      refine ⟨fun _ hf => h.1 _ hf, ?_⟩
      exact (Oper.wpIn_mono (fun a' w' h' => wpOpsIn_of_list l (i + 1) a' w' hl' h') h).2
    · rename_i hw
      rw [if_neg hw] at h
      exact ⟨h.1, wpOpsIn_of_list l (i + 1) _ _ hl' h.2⟩

/-! ### The head of a region that draws -/
theorem Drew.heap {w w' : World} (h : Drew w w') : w'.heap = w.heap := by obtain ⟨n, rfl⟩ := h; rfl
theorem Drew.refl (w : World) : Drew w w := ⟨0, rfl⟩
theorem Drew.trans {a b c : World} (h : Drew a b) (k : Drew b c) : Drew a c := by
  obtain ⟨n, rfl⟩ := h; obtain ⟨m, rfl⟩ := k
  exact ⟨n + m, by simp [World.drewN, Nat.add_assoc]⟩

theorem quiet_of_yields {o : Oper} {a : Act} {w : World} {v : Value} {next : Act → Prop} (h : Yields1 P (execOp a.eval o) w v) (hn : next (a.put o.dst v)) : o.quiet P a (Drew w) next := by
  refine ⟨v, fun w' hw => ?_, hn⟩
  unfold Oper.quietAt
  rw [h w' hw.heap]
  exact ⟨rfl, rfl⟩

theorem vcOpQ_sound (hT : TabOk P T) (hB : ∀ g, B g = true → ∀ args w, (callFunc g args).run P w = .ok (.enter g args) w) {o : Oper} {a : Act} {w : World} {K : Value → Prop} {next : Act → Prop}
    (h : vcOpQ P T B o a.eval w K) (hn : ∀ v, K v → next (a.put o.dst v)) : o.quiet P a (Drew w) next := by
  have qd : vcQ P T o a.eval w K → o.quiet P a (Drew w) next := fun h => by
    obtain ⟨v, hK, hy⟩ := vcQ_run hT h
    exact quiet_of_yields hy (hn v hK)
  obtain ⟨dst, op, type, pos, after, guard⟩ := o
  cases op <;> simp only [vcOpQ] at h <;> try exact qd h
  case build t parts =>
    obtain ⟨v, hK, hr⟩ := buildW_run hT h
    refine quiet_of_yields (v := v) (yields_val fun w' _ => ?_) (hn v hK)
    rw [show (parts.map fun (p : Nat × Operand) => (p.1, a.eval p.2)) = ⟨parts.toList.map fun p => (p.1, a.eval p.2)⟩ from arr_map _ _]
    exact hr w'
  case call c =>
    obtain ⟨callee, args, argTypes⟩ := c
    cases callee with
    | value f =>
      obtain ⟨g, l, r, hf, h1⟩ := onFunc_spec h
      obtain ⟨i, hi, h2⟩ := tyW_spec h1
      obtain ⟨hg, h3⟩ := bW_spec h2
      obtain ⟨v, hq, hK⟩ := Sh.ex_spec h3
      refine ⟨v, fun w' hw => ?_, hn v hK⟩
      unfold Oper.quietAt
      have hargs : args.map a.eval = ⟨args.toList.map a.eval⟩ := arr_map _ _
      have : (execOp a.eval { dst, op := .call { callee := .value f, args, argTypes }, type, pos, after, guard }).run P w' = .ok (.enter g ⟨l ++ args.toList.map a.eval ++ r⟩) w' := by
        simp only [execOp, resolve, hf, Deferred.ofValue]
        rw [Sem.run_bind]
        simp only [Sem.run_pure, Result.andThen, invoke]
        rw [show (⟨l⟩ : Array Value) ++ args.map a.eval ++ (⟨r⟩ : Array Value) = ⟨l ++ args.toList.map a.eval ++ r⟩ by apply Array.toList_inj.1; simp]
        exact hB g hg _ w'
      rw [this]
      obtain ⟨m, rfl⟩ := hw
      refine ⟨rfl, (hq m).mono ?_⟩
      rintro e w'' ⟨he, m', hm'⟩
      exact ⟨he, m', hm'⟩
    | invoke r m => exact qd h
    | builtin b => exact qd h

theorem vcOpsQ_sound (hT : TabOk P T) (hB : ∀ g, B g = true → ∀ args w, (callFunc g args).run P w = .ok (.enter g args) w) {ops : Array Oper} (hall : allLt n (dstsOps ops.toList) = true)
    {K : St → Prop} {Kq : Act → Prop} {ds : List Deferred} {S : List Nat} {σ0 : St} {w : World} (hQ : ∀ a' σ', Ag n a' σ' → a'.defers = ds → Fr S σ0 σ' → K σ' → Kq a') :
    ∀ (rest : List Oper), (∀ o ∈ rest, o ∈ ops) → (∀ i, memS i S = false → memS i (dstsOps rest) = false) → ∀ (σ : St) (a : Act), vcOpsQ P T B ops.toList w K rest σ → Ag n a σ → a.defers = ds → Fr S σ0 σ → wpQuiet P ops (Drew w) Kq rest a
  | [], _, _, σ, a, h, hag, hds, hf => hQ a σ hag hds hf h
  | o :: rest, hm, hS, σ, a, h, hag, hds, hf => by
    have ho := hm o (by simp)
    have hdlt : ∀ x, o.dst = some x → x < n := by
      intro d hod
      have hm' : o ∈ ops.toList := by rw [← Array.mem_def]; exact ho
      have : ∀ (l : List Oper), o ∈ l → allLt n (dstsOps l) = true → d < n := by
        intro l
        induction l with
        | nil => intro h; cases h
        | cons x l ih =>
          intro hm hl
          unfold dstsOps at hl
          rcases List.mem_cons.1 hm with rfl | hm'
          · rw [hod] at hl; simp only [allLt, Bool.and_eq_true] at hl; exact Nat.le_of_ble_eq_true hl.1
          · cases hx : x.dst with
            | none => rw [hx] at hl; exact ih hm' hl
            | some y => rw [hx] at hl; simp only [allLt, Bool.and_eq_true] at hl; exact ih hm' hl.2
      exact this _ hm' hall
    have hS1 : ∀ i, memS i S = false → ∀ x, o.dst = some x → Nat.beq i x = false := by
      intro i hi x hx
      have := hS i hi
      unfold dstsOps at this
      rw [hx] at this
      simp only [memS] at this
      cases hb : Nat.beq i x with
      | true => rw [hb] at this; cases this
      | false => rfl
    have hS2 : ∀ i, memS i S = false → memS i (dstsOps rest) = false := by
      intro i hi
      have := hS i hi
      unfold dstsOps at this
      cases hx : o.dst with
      | none => rw [hx] at this; exact this
      | some x =>
        rw [hx] at this
        simp only [memS] at this
        cases hb : Nat.beq i x with
        | true => rw [hb] at this; cases this
        | false => rw [hb] at this; exact this
    obtain ⟨σ', he, hcase⟩ := guardW_spec hag hall h rfl
    have hag' : Ag n a σ' := hag.congr fun i => (he i).symm
    have hf' : Fr S σ0 σ' := fun i hi => (he i).trans (hf i hi)
    have next : ∀ v, vcOpsQ P T B ops.toList w K rest (updo σ' o.dst v) → wpQuiet P ops (Drew w) Kq rest (a.put o.dst v) := fun v hv =>
      vcOpsQ_sound hT hB hall hQ rest (fun x hx => hm x (by simp [hx])) hS2 _ _ hv (hag'.put hdlt v) (by cases o.dst <;> exact hds) (fun i hi => (updo_frame (hS1 i hi)).trans (hf' i hi))
    unfold wpQuiet
    rcases hcase with ⟨hw, hx⟩ | ⟨hw, hy⟩
    · rw [if_pos hw]
      rw [← hag'.eval] at hx
      exact vcOpQ_sound hT hB hx next
    · rw [if_neg (by rw [hw]; simp)]
      exact next _ hy

theorem vcQ_pure (hT : TabOk P T) {o : Oper} {ρ : Operand → Value} {w : World} {K : Value → Prop} (hp : pureOp T o.op = true) (h : vcQ P T o ρ w K) : ∃ v, K v ∧ ∀ w', (execOp ρ o).run P w' = .ok (.value v) w' := by
  obtain ⟨dst, op, type, pos, after, guard⟩ := o
  have pv : ∀ {s : Sem Value} {v : Value}, (∀ w', s.run P w' = .ok v w') → ∀ w', (do pure (.value (← s)) : Sem Next).run P w' = .ok (.value v) w' := fun h w' => by rw [Sem.run_bind, h w']; rfl
  cases op <;> simp only [pureOp] at hp <;> try (cases hp; done)
  case move x => exact ⟨_, h, fun _ => rfl⟩
  case nilCheck x =>
    obtain ⟨p, hp, h1⟩ := onPtr_spec h
    obtain ⟨a, rfl, hK⟩ := ptrW_spec h1
    exact ⟨_, hK, fun w' => by simp [execOp, hp]⟩
  case pick c a b =>
    obtain ⟨v, hc, h1⟩ := onBool_spec h
    cases v with
    | true => exact ⟨_, h1, fun w' => by simp [execOp, hc, asBool]⟩
    | false => exact ⟨_, h1, fun w' => by simp [execOp, hc, asBool]⟩
  case extract t i =>
    obtain ⟨l, hl, h1⟩ := onTup_spec h
    obtain ⟨v, hv, hK⟩ := lgetW_spec h1
    refine ⟨v, hK, pv fun w' => ?_⟩
    have : (⟨l⟩ : Array Value)[i]? = some v := by rw [← Array.getElem?_toList]; exact hv
    simp [Instr.extract, hl, this]
  case fieldAddr s x f =>
    obtain ⟨p, hp, h1⟩ := onPtr_spec h
    obtain ⟨a, rfl, h2⟩ := ptrW_spec h1
    obtain ⟨i, hi, h3⟩ := tyW_spec h2
    obtain ⟨fs, hfs, h4⟩ := onStruct_spec h3
    obtain ⟨off, ft, hf, h5⟩ := nthF_spec h4
    obtain ⟨fi, hfi, h6⟩ := tyW_spec h5
    obtain ⟨hz, hK⟩ := bW_spec h6
    exact ⟨_, hK, pv fun w' => by rw [hp]; exact fieldAt_run hT hi hfs hf hfi hz a w'⟩
  case indexAddr t x i => obtain ⟨v, hK, hr⟩ := idxAddr_run hT h; exact ⟨v, hK, pv fun w' => hr w'⟩
  case slice t x lo hi mx => obtain ⟨v, hK, hr⟩ := slice_run hT h; exact ⟨v, hK, pv fun w' => hr w'⟩
  case unOp op _ x => obtain ⟨v, hK, hr⟩ := un_run h; exact ⟨v, hK, pv fun w' => hr w'⟩
  case convert s d x => obtain ⟨v, hK, hr⟩ := conv_run hT h; exact ⟨v, hK, pv fun w' => hr w'⟩
  case binOp op t x y e =>
    have hint : intT T t = true := by cases op <;> first | exact hp | cases hp
    obtain ⟨i, hi, h1⟩ := tyW_spec h
    simp only [intT, hi] at hint
    have hsem : ∃ v, K v ∧ ∀ w', (do eqGuard op t x y (ρ x) (ρ y); binOp op t (ρ x) (ρ y) : Sem Value).run P w' = .ok v w' := by
      cases hk : i.kd <;> rw [hk] at hint h1 <;> simp only at hint h1 <;> try (cases hint; done)
      obtain ⟨k, a, hx, h4⟩ := onInt_spec h1
      obtain ⟨k', b, hy, h5⟩ := onInt_spec h4
      have hs : isSh op = false := by cases op <;> first | rfl | cases hp
      rw [hs] at h5
      obtain ⟨rfl, h6⟩ := sameK_spec h5
      obtain ⟨v, hK, hv⟩ := intOp_run (P := P) t h6
      refine ⟨v, hK, fun w' => ?_⟩
      rw [hx, hy, guard_none op t x y _ (by simp) (by simp), Sem.run_bind]
      exact hv w'
    obtain ⟨v, hK, hv⟩ := hsem
    refine ⟨v, hK, fun w' => ?_⟩
    exact pv (s := do eqGuard op t x y (ρ x) (ρ y); binOp op t (ρ x) (ρ y)) hv w'
  case call c =>
    obtain ⟨callee, args, argTypes⟩ := c
    cases callee <;> simp only at hp <;> try (cases hp; done)
    rename_i b
    cases b <;> simp only at hp <;> try (cases hp; done)
    have hres : ∀ w' : World, (execOp ρ { dst, op := .call { callee := .builtin .len, args, argTypes }, type, pos, after, guard }).run P w' =
        (builtin .len argTypes type (args.map fun | .const _ => true | _ => false) (args.map ρ)).run P w' := by
      intro w'
      simp [execOp, resolve, invoke]
      rfl
    simp only [vcQ] at h
    split at h <;> try exact h.elim
    rename_i x t e1 e2
    rw [e2] at hp
    obtain ⟨i, hi, h1⟩ := tyW_spec h
    simp only [hi] at hp
    obtain ⟨info, d, e3, hu, e4, _⟩ := hT.info hi
    have hr : ∃ v, K v ∧ ∀ w', (Builtin.len_ #[t] type #[ρ x]).run P w' = .ok v w' := by
      cases hk : i.kd <;> rw [hk] at hp h1 e4 <;> simp only at hp h1 <;> try (cases hp; done)
      · have := kdOf_string e4; cases this
        generalize ρ x = y at h1 ⊢
        cases y <;> simp only at h1 <;> try exact h1.elim
        exact ⟨_, h1, fun w' => by simp [Builtin.len_, run_und hu, Result.andThen, goInt]⟩
      · have := kdOf_slice e4; cases this
        generalize ρ x = y at h1 ⊢
        cases y <;> simp only at h1 <;> try exact h1.elim
        exact ⟨_, h1, fun w' => by simp [Builtin.len_, run_und hu, Result.andThen, goInt]⟩
    obtain ⟨v, hK, hr⟩ := hr
    refine ⟨v, hK, fun w' => ?_⟩
    have h3 : args.map ρ = #[ρ x] := by apply Array.toList_inj.1; simp [e1]
    have h4 : argTypes = #[t] := by apply Array.toList_inj.1; simp [e2]
    rw [hres, h3, h4]
    show (do pure (.value (← Builtin.len_ #[t] type #[ρ x])) : Sem Next).run P w' = _
    rw [Sem.run_bind, hr w']; rfl

/-- It is about to make no call. -/
theorem pure_about {o : Oper} (hp : pureOp T o.op = true) (ρ : Operand → Value) (w : World) : o.about P w ρ = none := by
  obtain ⟨dst, op, type, pos, after, guard⟩ := o
  unfold Oper.about
  cases op <;> simp only [pureOp] at hp <;> try (first | rfl | (cases hp; done))
  rename_i c
  obtain ⟨callee, args, argTypes⟩ := c
  cases callee <;> simp only at hp <;> try (cases hp; done)
  rfl

theorem dst_lt {ops : List Oper} {o : Oper} {d : Nat} (hm : o ∈ ops) (hl : allLt n (dstsOps ops) = true) (hod : o.dst = some d) : d < n := by
  induction ops with
  | nil => cases hm
  | cons x l ih =>
    unfold dstsOps at hl
    rcases List.mem_cons.1 hm with rfl | hm'
    · rw [hod] at hl; simp only [allLt, Bool.and_eq_true] at hl; exact Nat.le_of_ble_eq_true hl.1
    · cases hx : x.dst with
      | none => rw [hx] at hl; exact ih hm' hl
      | some y => rw [hx] at hl; simp only [allLt, Bool.and_eq_true] at hl; exact ih hm' hl.2

theorem mem_dsts {S : List Nat} {i : Nat} : ∀ {l : List Oper}, memS i (dstsOps l) = false → ∀ o ∈ l, ∀ x, o.dst = some x → Nat.beq i x = false
  | [], _, o, ho, _, _ => by cases ho
  | y :: l, h, o, ho, x, hx => by
    unfold dstsOps at h
    rcases List.mem_cons.1 ho with rfl | ho'
    · rw [hx] at h
      simp only [memS] at h
      cases hb : Nat.beq i x with
      | true => rw [hb] at h; cases h
      | false => rfl
    · cases hy : y.dst with
      | none => rw [hy] at h; exact mem_dsts (S := S) h o ho' x hx
      | some z =>
        rw [hy] at h
        simp only [memS] at h
        cases hb : Nat.beq i z with
        | true => rw [hb] at h; cases h
        | false => rw [hb] at h; exact mem_dsts (S := S) h o ho' x hx

theorem vcOpsP_sound (hT : TabOk P T) {ops : Array Oper} (hall : allLt n (dstsOps ops.toList) = true)
    {K : St → Prop} {Kq : Act → Prop} {ds : List Deferred} {σ0 : St} {w : World} (hQ : ∀ a' σ', Ag n a' σ' → a'.defers = ds → Fr (dstsOps ops.toList) σ0 σ' → K σ' → Kq a') :
    ∀ (rest : List Oper), (∀ o ∈ rest, o ∈ ops.toList) → ∀ (σ : St) (a : Act), vcOpsP P T w K rest σ → Ag n a σ → a.defers = ds → Fr (dstsOps ops.toList) σ0 σ → wpPure P ops Kq rest a
  | [], _, σ, a, h, hag, hds, hf => hQ a σ hag hds hf h
  | o :: rest, hm, σ, a, h, hag, hds, hf => by
    unfold vcOpsP at h
    cases hg : o.guard with
    | some g => rw [hg] at h; exact h.elim
    | none =>
      rw [hg] at h
      obtain ⟨hp, h1⟩ := bW_spec h
      obtain ⟨v, hK, hr⟩ := vcQ_pure hT hp h1
      have ho := hm o (by simp)
      refine ⟨v, ⟨.inl ⟨by unfold Region.wanted; rw [hg], fun w' => by rw [hag.eval]; exact hr w'⟩, fun w' => pure_about hp _ _⟩, ?_⟩
      exact vcOpsP_sound hT hall hQ rest (fun x hx => hm x (by simp [hx])) _ _ hK (hag.put (fun x hx => dst_lt ho hall hx) v) (by cases o.dst <;> exact hds)
        (fun i hi => (updo_frame (fun x hx => mem_dsts (S := []) hi o ho x hx)).trans (hf i hi))

theorem mem_dstsOps_take {i : Nat} : ∀ {l : List Oper} {h : Nat}, memS i (dstsOps l) = false → memS i (dstsOps (l.take h)) = false ∧ memS i (dstsOps (l.drop h)) = false
  | [], h, hm => by simp [dstsOps, memS]
  | o :: l, 0, hm => ⟨rfl, hm⟩
  | o :: l, h + 1, hm => by
    simp only [List.take_succ_cons, List.drop_succ_cons]
    unfold dstsOps at hm
    cases hx : o.dst with
    | none =>
      rw [hx] at hm
      obtain ⟨h1, h2⟩ := mem_dstsOps_take (h := h) hm
      refine ⟨?_, h2⟩
      unfold dstsOps; rw [hx]; exact h1
    | some x =>
      rw [hx] at hm
      simp only [memS] at hm
      cases hb : Nat.beq i x with
      | true => rw [hb] at hm; cases hm
      | false =>
        rw [hb] at hm
        obtain ⟨h1, h2⟩ := mem_dstsOps_take (h := h) hm
        refine ⟨?_, h2⟩
        unfold dstsOps; rw [hx]; simp only [memS, hb]; exact h1

end
end Go.Proofs.YtgepmlgkeljelaaGreat.Vc
