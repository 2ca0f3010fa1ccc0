/- The conditions are enough: code. -/
import Derived.Test.YtgepmlgkeljelaaVcS4
import Derived.Deep.LoopGhost
import Derived.RangeFuncIn
import Derived.RangeFuncLeaves
namespace Go.Proofs.Ytgepmlgkeljelaa.Vc
open Go

/-- The frame's slots are σ's, n of them. -/
def Ag (n : Nat) (a : Act) (σ : St) : Prop := a.tmps.size = n ∧ ∀ i, a.tmps.getD i undef = σ i
/-- Slots outside S are as they were. -/
def Fr (S : List Nat) (σ σ' : St) : Prop := ∀ i, memS i S = false → σ' i = σ i

def dstsOps : List Oper → List Nat
  | [] => []
  | o :: l => (match o.dst with | some d => d :: dstsOps l | none => dstsOps l)
def writes : Code → List Nat
  | .region _ ops _ => dstsOps ops.toList
  | .seq a b => writes a ++ writes b
  | .cond _ a b => writes a ++ writes b
  | .block _ c => writes c
  | .loop c => writes c
  | _ => []
def subS : List Nat → List Nat → Bool
  | [], _ => true
  | i :: l, S => memS i S && subS l S
def allLt (n : Nat) : List Nat → Bool
  | [] => true
  | i :: l => Nat.blt i n && allLt n l

def slotsIn : Slots → List Nat → Bool
  | [], _ => true
  | (i, _) :: l, S => memS i S && slotsIn l S
/-- The slots that a piece writes are just S; those that are told of are among them. -/
def planOk (c : Code) (p : Slots × List Nat) : Bool := subS (writes c) p.2 && subS p.2 (writes c) && slotsIn p.1 (writes c)

/-- What of a piece of code is to be looked at ahead. -/
def codeOk (n : Nat) (pl : Plan) : Bool → Code → Bool
  | top, .region id ops draw => allLt n (dstsOps ops.toList) && noDefer ops && (match draw with | false => true | true => (match pl.head id with | some (pre, qs, ts) => orderB ops pre qs ts && (top || pre.isEmpty) | none => true))
  | top, .seq x y => codeOk n pl top x && codeOk n pl top y && (match pl.cuts (rid y) with | none => true | some p => planOk x p)
  | top, .cond _ x y => codeOk n pl top x && codeOk n pl top y
  | top, .block _ c => codeOk n pl top c
  | top, .loop c => codeOk n pl top c && planOk c (pl.loops (lid c))
  | _, .rangeFunc _ ps a c => codeOk n pl false a && codeOk n pl false c && allLt n ps.toList && Nat.beq ps.size (pl.rng (rid c)).length
  | _, _ => true

section
variable {n : Nat}

theorem memS_append {i : Nat} : ∀ {a b : List Nat}, memS i (a ++ b) = (memS i a || memS i b)
  | [], _ => rfl
  | j :: a, b => by
    show cond (Nat.beq i j) true (memS i (a ++ b)) = (cond (Nat.beq i j) true (memS i a) || memS i b)
    cases Nat.beq i j
    · exact memS_append (a := a)
    · rfl
theorem memS_sub {i : Nat} : ∀ {a S : List Nat}, subS a S = true → memS i S = false → memS i a = false
  | [], _, _, _ => rfl
  | j :: a, S, h, hS => by
    simp only [subS, Bool.and_eq_true] at h
    show cond (Nat.beq i j) true (memS i a) = false
    cases hb : Nat.beq i j with
    | true => have := Nat.eq_of_beq_eq_true hb; subst this; rw [h.1] at hS; cases hS
    | false => exact memS_sub h.2 hS

theorem Fr.refl (S : List Nat) (σ : St) : Fr S σ σ := fun _ _ => rfl
theorem Fr.trans {S S' : List Nat} {a b c : St} (h : Fr S a b) (k : Fr S' b c) : Fr (S ++ S') a c := fun i hi => by
  rw [memS_append, Bool.or_eq_false_iff] at hi
  exact (k i hi.2).trans (h i hi.1)
theorem Fr.left {S S' : List Nat} {a b : St} (h : Fr S a b) : Fr (S ++ S') a b := fun i hi => by
  rw [memS_append, Bool.or_eq_false_iff] at hi; exact h i hi.1
theorem Fr.right {S S' : List Nat} {a b : St} (h : Fr S' a b) : Fr (S ++ S') a b := fun i hi => by
  rw [memS_append, Bool.or_eq_false_iff] at hi; exact h i hi.2

theorem Ag.eval {a : Act} {σ : St} (h : Ag n a σ) : a.eval = ev σ := by
  funext x
  cases x <;> first | rfl | exact h.2 _

theorem Ag.put {a : Act} {σ : St} (h : Ag n a σ) {d : Option Tmp} (hd : ∀ x, d = some x → x < n) (v : Value) : Ag n (a.put d v) (updo σ d v) := by
  cases d with
  | none => exact h
  | some x =>
    have hx := hd x rfl
    refine ⟨by simp [Act.put, h.1], fun i => ?_⟩
    show (a.tmps.setIfInBounds x v).getD i undef = cond (Nat.beq i x) v (σ i)
    cases hb : Nat.beq i x with
    | true =>
      have := Nat.eq_of_beq_eq_true hb; subst this
      simp [h.1, hx]
    | false =>
      have hne : x ≠ i := fun e => by subst e; simp at hb
      rw [← h.2 i]
      simp [Array.getElem?_setIfInBounds_ne hne]
theorem Ag.congr {a : Act} {σ σ' : St} (h : Ag n a σ) (e : ∀ i, σ i = σ' i) : Ag n a σ' := ⟨h.1, fun i => (h.2 i).trans (e i)⟩
theorem Ag.eq {a : Act} {σ σ' : St} (h : Ag n a σ) (h' : Ag n a σ') : σ = σ' := funext fun i => (h.2 i).symm.trans (h'.2 i)

theorem updo_frame {σ : St} {d : Option Nat} {v : Value} {i : Nat} (h : ∀ x, d = some x → Nat.beq i x = false) : updo σ d v i = σ i := by
  cases d with
  | none => rfl
  | some x => show cond (Nat.beq i x) v (σ i) = σ i; rw [h x rfl]; rfl

theorem upd_known {σ : St} {t : Nat} {v : Value} (h : σ t = v) : ∀ i, upd σ t v i = σ i := fun i => by
  show cond (Nat.beq i t) v (σ i) = σ i
  cases hb : Nat.beq i t with
  | true => have := Nat.eq_of_beq_eq_true hb; subst this; exact h.symm
  | false => rfl

/-! ### Guards -/
theorem nthO_get : ∀ (l : List Oper) (i : Nat), nthO l i = l[i]?
  | [], i => by simp [nthO]
  | o :: l, 0 => rfl
  | o :: l, i + 1 => by simpa [nthO] using nthO_get l i

theorem yielded_eq {ops : Array Oper} {a : Act} {σ : St} (h : Ag n a σ) (hd : allLt n (dstsOps ops.toList) = true) (j : Nat) : yielded ops a.tmps j = (match nthO ops.toList j with
    | none => none
    | some o => match o.dst with | none => none | some d => match σ d with | .bool b => some b | _ => none) := by
  unfold yielded
  rw [nthO_get, Array.getElem?_toList]
  cases ho : ops[j]? with
  | none => rfl
  | some o =>
    simp only [Option.bind_some]
    cases hod : o.dst with
    | none => rfl
    | some d =>
      have hlt : d < n := by
        have hm : o ∈ ops.toList := by rw [← Array.mem_def]; exact Array.mem_of_getElem? ho
        have : ∀ (l : List Oper), o ∈ l → allLt n (dstsOps l) = true → d < n := by
          intro l
          induction l with
          | nil => intro h; cases h
          | cons x l ih =>
            intro hm hl
            unfold dstsOps at hl
            rcases List.mem_cons.1 hm with rfl | hm'
            · rw [hod] at hl; simp only [allLt, Bool.and_eq_true] at hl; exact Nat.le_of_ble_eq_true hl.1
            · cases hx : x.dst with
              | none => rw [hx] at hl; exact ih hm' hl
              | some y => rw [hx] at hl; simp only [allLt, Bool.and_eq_true] at hl; exact ih hm' hl.2
        exact this _ hm hd
      simp only [Option.bind_some]
      have hs : a.tmps[d]? = some (σ d) := by
        rw [← h.2 d]
        have hlt' : d < a.tmps.size := by rw [h.1]; exact hlt
        simp [hlt']
      rw [hs]
      cases σ d <;> rfl

theorem guardW_spec {ops : Array Oper} {g : Option (Nat × Bool)} {a : Act} {σ : St} {X Y : St → Prop} (hag : Ag n a σ) (hd : allLt n (dstsOps ops.toList) = true) (h : guardW ops.toList g σ X Y) {o : Oper} (hg : o.guard = g) :
    ∃ σ', (∀ i, σ' i = σ i) ∧ ((Region.wanted o (yielded ops a.tmps) = true ∧ X σ') ∨ (Region.wanted o (yielded ops a.tmps) = false ∧ Y σ')) := by
  unfold guardW at h
  unfold Region.wanted
  rw [hg]
  cases g with
  | none => exact ⟨σ, fun _ => rfl, .inl ⟨rfl, h⟩⟩
  | some p =>
    obtain ⟨j, want⟩ := p
    simp only at h ⊢
    rw [yielded_eq hag hd j]
    cases hn : nthO ops.toList j with
    | none => rw [hn] at h; exact ⟨σ, fun _ => rfl, .inr ⟨by simp, h⟩⟩
    | some o' =>
      rw [hn] at h
      simp only at h ⊢
      cases hdst : o'.dst with
      | none => rw [hdst] at h; exact ⟨σ, fun _ => rfl, .inr ⟨by simp, h⟩⟩
      | some d =>
        rw [hdst] at h
        simp only at h ⊢
        cases hs : σ d <;> rw [hs] at h <;> simp only at h ⊢ <;> try exact ⟨σ, fun _ => rfl, .inr ⟨by simp, h⟩⟩
        rename_i b
        refine ⟨upd σ d (.bool b), upd_known hs, ?_⟩
        cases b <;> cases want <;> simp only [bcase] at h
        · exact .inl ⟨rfl, h⟩
        · exact .inr ⟨rfl, h⟩
        · exact .inr ⟨rfl, h⟩
        · exact .inl ⟨rfl, h⟩

/-! ### Lists of operations -/
variable {P : Program} {T : TypeId → Option TI} {B : FuncId → Bool}

/-- What is said of a round hangs on no fence that lets all in. -/
theorem round_any {l' l : Option Nat} {k k' : Nat} {L : Nat} {f : FuncId} {tmps : Array Value} {assign body : Code} {w : World} {R : Ending → World → Prop} (h : RoundIn (anyF l) k P L f tmps assign body w R) : RoundIn (anyF l') k' P L f tmps assign body w R :=
  ⟨trivial, fun c cs _ => h.2 c cs (fun d hd => by simp [anyF, Fence.wide] at hd)⟩

theorem ends_wpIn {o : Oper} {a : Act} {w : World} {K : Value → World → Prop} {l : Option Nat} {k : Nat} {next : Act → World → Prop} {Q : Exit → Act → World → Prop} (hd : ∀ c, o.op ≠ .defer c) (h : Ends P (execOp a.eval o) w K)
    (hn : ∀ v w', K v w' → next (a.put o.dst v) w') : o.wpIn (anyF l) k P a w next Q := by
  refine ⟨fun _ _ => trivial, ?_⟩
  rw [show (anyF l).round = l from rfl, mode_of hd]
  rcases h with ⟨v, w', hr, hK⟩ | ⟨w', hr, hK⟩ | ⟨g, args, hr, hc⟩ | ⟨l', f, tmps, assign, body, hr, hc⟩
  · rw [hr]; exact hn _ _ hK
  · rw [hr]; exact hn _ _ hK
  · rw [hr]
    refine ⟨fun h => by simp [anyF, Fence.wide] at h, callsIn_any (hc.mono ?_)⟩
    rintro e w' ⟨v, rfl, hK⟩
    exact hn _ _ hK
  · rw [hr]
    refine ⟨fun h => by simp [anyF, Fence.wide] at h, RoundIn.mono (round_any hc) ?_⟩
    rintro e w' ⟨v, rfl, hK⟩
    exact hn _ _ hK

theorem vcOps_sound (hT : TabOk P T) (hB : ∀ g, B g = true → ∀ args w, (callFunc g args).run P w = .ok (.enter g args) w) {ops : Array Oper} (hall : allLt n (dstsOps ops.toList) = true) (hnd : noDefer ops = true) {l : Option Nat} {k : Nat}
    {K : St → World → Prop} {Q' : Exit → Act → World → Prop} {ds : List Deferred} {S : List Nat} {σ0 : St} (hQ : ∀ a' σ' w', Ag n a' σ' → a'.defers = ds → Fr S σ0 σ' → K σ' w' → Q' .normal a' w') :
    ∀ (rest : List Oper), (∀ o ∈ rest, o ∈ ops) → (∀ i, memS i S = false → memS i (dstsOps rest) = false) → ∀ (σ : St) (w : World) (a : Act), vcOps P T B ops.toList K rest σ w → Ag n a σ → a.defers = ds → Fr S σ0 σ → wpListIn (anyF l) k P ops Q' rest a w
  | [], _, _, σ, w, a, h, hag, hds, hf => hQ a σ w hag hds hf h
  | o :: rest, hm, hS, σ, w, a, h, hag, hds, hf => by
    have ho := hm o (by simp)
    have hod : ∀ c, o.op ≠ .defer c := by
      obtain ⟨i, hi⟩ := Array.getElem?_of_mem ho
      exact noDefer_spec hnd hi
    have hdlt : ∀ x, o.dst = some x → x < n := by
      intro d hod
      have hm' : o ∈ ops.toList := by rw [← Array.mem_def]; exact ho
      have : ∀ (l : List Oper), o ∈ l → allLt n (dstsOps l) = true → d < n := by
        intro l
        induction l with
        | nil => intro h; cases h
        | cons x l ih =>
          intro hm hl
          unfold dstsOps at hl
          rcases List.mem_cons.1 hm with rfl | hm'
          · rw [hod] at hl; simp only [allLt, Bool.and_eq_true] at hl; exact Nat.le_of_ble_eq_true hl.1
          · cases hx : x.dst with
            | none => rw [hx] at hl; exact ih hm' hl
            | some y => rw [hx] at hl; simp only [allLt, Bool.and_eq_true] at hl; exact ih hm' hl.2
      exact this _ hm' hall
    have hS1 : ∀ i, memS i S = false → ∀ x, o.dst = some x → Nat.beq i x = false := by
      intro i hi x hx
      have := hS i hi
      unfold dstsOps at this
      rw [hx] at this
      simp only [memS] at this
      cases hb : Nat.beq i x with
      | true => rw [hb] at this; cases this
      | false => rfl
    have hS2 : ∀ i, memS i S = false → memS i (dstsOps rest) = false := by
      intro i hi
      have := hS i hi
      unfold dstsOps at this
      cases hx : o.dst with
      | none => rw [hx] at this; exact this
      | some x =>
        rw [hx] at this
        simp only [memS] at this
        cases hb : Nat.beq i x with
        | true => rw [hb] at this; cases this
        | false => rw [hb] at this; exact this
    obtain ⟨σ', he, hcase⟩ := guardW_spec hag hall h rfl
    have hag' : Ag n a σ' := hag.congr fun i => (he i).symm
    have hf' : Fr S σ0 σ' := fun i hi => (he i).trans (hf i hi)
    have next : ∀ v w', vcOps P T B ops.toList K rest (updo σ' o.dst v) w' → wpListIn (anyF l) k P ops Q' rest (a.put o.dst v) w' := fun v w' hv =>
      vcOps_sound hT hB hall hnd hQ rest (fun x hx => hm x (by simp [hx])) hS2 _ _ _ hv (hag'.put hdlt v) (by cases o.dst <;> exact hds) (fun i hi => (updo_frame (hS1 i hi)).trans (hf' i hi))
    unfold wpListIn
    rcases hcase with ⟨hw, hx⟩ | ⟨hw, hy⟩
    · rw [if_pos hw]
      have := vcOp_run hT hB hx
      rw [← hag'.eval] at this
      exact ends_wpIn hod this next
    · rw [if_neg (by rw [hw]; simp)]
      exact ⟨fun _ _ => trivial, next _ _ hy⟩

/-- A list of operations, and the same by their numbers. -/
theorem wpOpsIn_of_list {F : Fence} {k : Nat} {ops : Array Oper} {Q : Exit → Act → World → Prop} : ∀ (l : List Oper) (i : Nat) (a : Act) (w : World), (∀ j, l[j]? = ops[i + j]?) → wpListIn F k P ops Q l a w → wpOpsIn F k P ops Q (List.range' i l.length) a w
  | [], _, _, _, _, h => h
  | o :: l, i, a, w, hl, h => by
    have h0 : ops[i]? = some o := by simpa using (hl 0).symm
    have hl' : ∀ j, l[j]? = ops[i + 1 + j]? := fun j => by have := hl (j + 1); simpa [Nat.add_assoc, Nat.add_comm 1 j] using this
    simp only [List.length_cons, List.range'_succ]
    unfold wpListIn at h
    unfold wpOpsIn
    rw [h0]
    simp only
    split
    · rename_i hw
      rw [if_pos hw] at h
      refine ⟨fun _ hf => h.1 _ hf, ?_⟩
      exact (Oper.wpIn_mono (fun a' w' h' => wpOpsIn_of_list l (i + 1) a' w' hl' h') h).2
    · rename_i hw
      rw [if_neg hw] at h
      exact ⟨h.1, wpOpsIn_of_list l (i + 1) _ _ hl' h.2⟩

/-! ### The head of a region that draws -/
theorem Drew.heap {w w' : World} (h : Drew w w') : w'.heap = w.heap := by obtain ⟨n, rfl⟩ := h; rfl
theorem Drew.refl (w : World) : Drew w w := ⟨0, rfl⟩
theorem Drew.trans {a b c : World} (h : Drew a b) (k : Drew b c) : Drew a c := by
  obtain ⟨n, rfl⟩ := h; obtain ⟨m, rfl⟩ := k
  exact ⟨n + m, by simp [World.drewN, Nat.add_assoc]⟩

theorem quiet_of_yields {o : Oper} {a : Act} {w : World} {v : Value} {next : Act → Prop} (h : Yields1 P (execOp a.eval o) w v) (hn : next (a.put o.dst v)) : o.quiet P a (Drew w) next := by
  refine ⟨v, fun w' hw => ?_, hn⟩
  unfold Oper.quietAt
  rw [h w' hw.heap]
  exact ⟨rfl, rfl⟩

theorem vcOpQ_sound (hT : TabOk P T) (hB : ∀ g, B g = true → ∀ args w, (callFunc g args).run P w = .ok (.enter g args) w) {o : Oper} {a : Act} {w : World} {K : Value → Prop} {next : Act → Prop}
    (h : vcOpQ P T B o a.eval w K) (hn : ∀ v, K v → next (a.put o.dst v)) : o.quiet P a (Drew w) next := by
  have qd : vcQ P T o a.eval w K → o.quiet P a (Drew w) next := fun h => by
    obtain ⟨v, hK, hy⟩ := vcQ_run hT h
    exact quiet_of_yields hy (hn v hK)
  obtain ⟨dst, op, type, pos, after, guard⟩ := o
  cases op <;> simp only [vcOpQ] at h <;> try exact qd h
  case build t parts =>
    obtain ⟨v, hK, hr⟩ := buildW_run hT h
    refine quiet_of_yields (v := v) (yields_val fun w' _ => ?_) (hn v hK)
    rw [show (parts.map fun (p : Nat × Operand) => (p.1, a.eval p.2)) = ⟨parts.toList.map fun p => (p.1, a.eval p.2)⟩ from arr_map _ _]
    exact hr w'
  case call c =>
    obtain ⟨callee, args, argTypes⟩ := c
    cases callee with
    | value f =>
      obtain ⟨g, l, r, hf, h1⟩ := onFunc_spec h
      obtain ⟨i, hi, h2⟩ := tyW_spec h1
      obtain ⟨hg, h3⟩ := bW_spec h2
      obtain ⟨v, hq, hK⟩ := Sh.ex_spec h3
      refine ⟨v, fun w' hw => ?_, hn v hK⟩
      unfold Oper.quietAt
      have hargs : args.map a.eval = ⟨args.toList.map a.eval⟩ := arr_map _ _
      have : (execOp a.eval { dst, op := .call { callee := .value f, args, argTypes }, type, pos, after, guard }).run P w' = .ok (.enter g ⟨l ++ args.toList.map a.eval ++ r⟩) w' := by
        simp only [execOp, resolve, hf, Deferred.ofValue]
        rw [Sem.run_bind]
        simp only [Sem.run_pure, Result.andThen, invoke]
        rw [show (⟨l⟩ : Array Value) ++ args.map a.eval ++ (⟨r⟩ : Array Value) = ⟨l ++ args.toList.map a.eval ++ r⟩ by apply Array.toList_inj.1; simp]
        exact hB g hg _ w'
      rw [this]
      obtain ⟨m, rfl⟩ := hw
      refine ⟨rfl, (hq m).mono ?_⟩
      rintro e w'' ⟨he, m', hm'⟩
      exact ⟨he, m', hm'⟩
    | invoke r m => exact qd h
    | builtin b => exact qd h

theorem vcOpsQ_sound (hT : TabOk P T) (hB : ∀ g, B g = true → ∀ args w, (callFunc g args).run P w = .ok (.enter g args) w) {ops : Array Oper} (hall : allLt n (dstsOps ops.toList) = true)
    {K : St → Prop} {Kq : Act → Prop} {ds : List Deferred} {S : List Nat} {σ0 : St} {w : World} (hQ : ∀ a' σ', Ag n a' σ' → a'.defers = ds → Fr S σ0 σ' → K σ' → Kq a') :
    ∀ (rest : List Oper), (∀ o ∈ rest, o ∈ ops) → (∀ i, memS i S = false → memS i (dstsOps rest) = false) → ∀ (σ : St) (a : Act), vcOpsQ P T B ops.toList w K rest σ → Ag n a σ → a.defers = ds → Fr S σ0 σ → wpQuiet P ops (Drew w) Kq rest a
  | [], _, _, σ, a, h, hag, hds, hf => hQ a σ hag hds hf h
  | o :: rest, hm, hS, σ, a, h, hag, hds, hf => by
    have ho := hm o (by simp)
    have hdlt : ∀ x, o.dst = some x → x < n := by
      intro d hod
      have hm' : o ∈ ops.toList := by rw [← Array.mem_def]; exact ho
      have : ∀ (l : List Oper), o ∈ l → allLt n (dstsOps l) = true → d < n := by
        intro l
        induction l with
        | nil => intro h; cases h
        | cons x l ih =>
          intro hm hl
          unfold dstsOps at hl
          rcases List.mem_cons.1 hm with rfl | hm'
          · rw [hod] at hl; simp only [allLt, Bool.and_eq_true] at hl; exact Nat.le_of_ble_eq_true hl.1
          · cases hx : x.dst with
            | none => rw [hx] at hl; exact ih hm' hl
            | some y => rw [hx] at hl; simp only [allLt, Bool.and_eq_true] at hl; exact ih hm' hl.2
      exact this _ hm' hall
    have hS1 : ∀ i, memS i S = false → ∀ x, o.dst = some x → Nat.beq i x = false := by
      intro i hi x hx
      have := hS i hi
      unfold dstsOps at this
      rw [hx] at this
      simp only [memS] at this
      cases hb : Nat.beq i x with
      | true => rw [hb] at this; cases this
      | false => rfl
    have hS2 : ∀ i, memS i S = false → memS i (dstsOps rest) = false := by
      intro i hi
      have := hS i hi
      unfold dstsOps at this
      cases hx : o.dst with
      | none => rw [hx] at this; exact this
      | some x =>
        rw [hx] at this
        simp only [memS] at this
        cases hb : Nat.beq i x with
        | true => rw [hb] at this; cases this
        | false => rw [hb] at this; exact this
    obtain ⟨σ', he, hcase⟩ := guardW_spec hag hall h rfl
    have hag' : Ag n a σ' := hag.congr fun i => (he i).symm
    have hf' : Fr S σ0 σ' := fun i hi => (he i).trans (hf i hi)
    have next : ∀ v, vcOpsQ P T B ops.toList w K rest (updo σ' o.dst v) → wpQuiet P ops (Drew w) Kq rest (a.put o.dst v) := fun v hv =>
      vcOpsQ_sound hT hB hall hQ rest (fun x hx => hm x (by simp [hx])) hS2 _ _ hv (hag'.put hdlt v) (by cases o.dst <;> exact hds) (fun i hi => (updo_frame (hS1 i hi)).trans (hf' i hi))
    unfold wpQuiet
    rcases hcase with ⟨hw, hx⟩ | ⟨hw, hy⟩
    · rw [if_pos hw]
      rw [← hag'.eval] at hx
      exact vcOpQ_sound hT hB hx next
    · rw [if_neg (by rw [hw]; simp)]
      exact next _ hy

theorem vcQ_pure (hT : TabOk P T) {o : Oper} {ρ : Operand → Value} {w : World} {K : Value → Prop} (hp : pureOp T o.op = true) (h : vcQ P T o ρ w K) : ∃ v, K v ∧ ∀ w', (execOp ρ o).run P w' = .ok (.value v) w' := by
  obtain ⟨dst, op, type, pos, after, guard⟩ := o
  have pv : ∀ {s : Sem Value} {v : Value}, (∀ w', s.run P w' = .ok v w') → ∀ w', (do pure (.value (← s)) : Sem Next).run P w' = .ok (.value v) w' := fun h w' => by rw [Sem.run_bind, h w']; rfl
  cases op <;> simp only [pureOp] at hp <;> try (cases hp; done)
  case move x => exact ⟨_, h, fun _ => rfl⟩
  case nilCheck x =>
    obtain ⟨p, hp, h1⟩ := onPtr_spec h
    obtain ⟨a, rfl, hK⟩ := ptrW_spec h1
    exact ⟨_, hK, fun w' => by simp [execOp, hp]⟩
  case pick c a b =>
    obtain ⟨v, hc, h1⟩ := onBool_spec h
    cases v with
    | true => exact ⟨_, h1, fun w' => by simp [execOp, hc, asBool]⟩
    | false => exact ⟨_, h1, fun w' => by simp [execOp, hc, asBool]⟩
  case extract t i =>
    obtain ⟨l, hl, h1⟩ := onTup_spec h
    obtain ⟨v, hv, hK⟩ := lgetW_spec h1
    refine ⟨v, hK, pv fun w' => ?_⟩
    have : (⟨l⟩ : Array Value)[i]? = some v := by rw [← Array.getElem?_toList]; exact hv
    simp [Instr.extract, hl, this]
  case fieldAddr s x f =>
    obtain ⟨p, hp, h1⟩ := onPtr_spec h
    obtain ⟨a, rfl, h2⟩ := ptrW_spec h1
    obtain ⟨i, hi, h3⟩ := tyW_spec h2
    obtain ⟨fs, hfs, h4⟩ := onStruct_spec h3
    obtain ⟨off, ft, hf, h5⟩ := nthF_spec h4
    obtain ⟨fi, hfi, h6⟩ := tyW_spec h5
    obtain ⟨hz, hK⟩ := bW_spec h6
    exact ⟨_, hK, pv fun w' => by rw [hp]; exact fieldAt_run hT hi hfs hf hfi hz a w'⟩
  case indexAddr t x i => obtain ⟨v, hK, hr⟩ := idxAddr_run hT h; exact ⟨v, hK, pv fun w' => hr w'⟩
  case slice t x lo hi mx => obtain ⟨v, hK, hr⟩ := slice_run hT h; exact ⟨v, hK, pv fun w' => hr w'⟩
  case unOp op _ x => obtain ⟨v, hK, hr⟩ := un_run h; exact ⟨v, hK, pv fun w' => hr w'⟩
  case convert s d x => obtain ⟨v, hK, hr⟩ := conv_run hT h; exact ⟨v, hK, pv fun w' => hr w'⟩
  case binOp op t x y e =>
    have hint : intT T t = true := by cases op <;> first | exact hp | cases hp
    obtain ⟨i, hi, h1⟩ := tyW_spec h
    simp only [intT, hi] at hint
    have hsem : ∃ v, K v ∧ ∀ w', (do eqGuard op t x y (ρ x) (ρ y); binOp op t (ρ x) (ρ y) : Sem Value).run P w' = .ok v w' := by
      cases hk : i.kd <;> rw [hk] at hint h1 <;> simp only at hint h1 <;> try (cases hint; done)
      obtain ⟨k, a, hx, h4⟩ := onInt_spec h1
      obtain ⟨k', b, hy, h5⟩ := onInt_spec h4
      have hs : isSh op = false := by cases op <;> first | rfl | cases hp
      rw [hs] at h5
      obtain ⟨rfl, h6⟩ := sameK_spec h5
      obtain ⟨v, hK, hv⟩ := intOp_run (P := P) t h6
      refine ⟨v, hK, fun w' => ?_⟩
      rw [hx, hy, guard_none op t x y _ (by simp) (by simp), Sem.run_bind]
      exact hv w'
    obtain ⟨v, hK, hv⟩ := hsem
    refine ⟨v, hK, fun w' => ?_⟩
    exact pv (s := do eqGuard op t x y (ρ x) (ρ y); binOp op t (ρ x) (ρ y)) hv w'
  case call c =>
    obtain ⟨callee, args, argTypes⟩ := c
    cases callee <;> simp only at hp <;> try (cases hp; done)
    rename_i b
    cases b <;> simp only at hp <;> try (cases hp; done)
    have hres : ∀ w' : World, (execOp ρ { dst, op := .call { callee := .builtin .len, args, argTypes }, type, pos, after, guard }).run P w' =
        (builtin .len argTypes type (args.map fun | .const _ => true | _ => false) (args.map ρ)).run P w' := by
      intro w'
      simp [execOp, resolve, invoke]
      rfl
    simp only [vcQ] at h
    split at h <;> try exact h.elim
    rename_i x t e1 e2
    rw [e2] at hp
    obtain ⟨i, hi, h1⟩ := tyW_spec h
    simp only [hi] at hp
    obtain ⟨info, d, e3, hu, e4, _⟩ := hT.info hi
    have hr : ∃ v, K v ∧ ∀ w', (Builtin.len_ #[t] type #[ρ x]).run P w' = .ok v w' := by
      cases hk : i.kd <;> rw [hk] at hp h1 e4 <;> simp only at hp h1 <;> try (cases hp; done)
      · have := kdOf_string e4; cases this
        generalize ρ x = y at h1 ⊢
        cases y <;> simp only at h1 <;> try exact h1.elim
        exact ⟨_, h1, fun w' => by simp [Builtin.len_, run_und hu, Result.andThen, goInt]⟩
      · have := kdOf_slice e4; cases this
        generalize ρ x = y at h1 ⊢
        cases y <;> simp only at h1 <;> try exact h1.elim
        exact ⟨_, h1, fun w' => by simp [Builtin.len_, run_und hu, Result.andThen, goInt]⟩
    obtain ⟨v, hK, hr⟩ := hr
    refine ⟨v, hK, fun w' => ?_⟩
    have h3 : args.map ρ = #[ρ x] := by apply Array.toList_inj.1; simp [e1]
    have h4 : argTypes = #[t] := by apply Array.toList_inj.1; simp [e2]
    rw [hres, h3, h4]
    show (do pure (.value (← Builtin.len_ #[t] type #[ρ x])) : Sem Next).run P w' = _
    rw [Sem.run_bind, hr w']; rfl

/-- It is about to make no call. -/
theorem pure_about {o : Oper} (hp : pureOp T o.op = true) (ρ : Operand → Value) (w : World) : o.about P w ρ = none := by
  obtain ⟨dst, op, type, pos, after, guard⟩ := o
  unfold Oper.about
  cases op <;> simp only [pureOp] at hp <;> try (first | rfl | (cases hp; done))
  rename_i c
  obtain ⟨callee, args, argTypes⟩ := c
  cases callee <;> simp only at hp <;> try (cases hp; done)
  rfl

theorem dst_lt {ops : List Oper} {o : Oper} {d : Nat} (hm : o ∈ ops) (hl : allLt n (dstsOps ops) = true) (hod : o.dst = some d) : d < n := by
  induction ops with
  | nil => cases hm
  | cons x l ih =>
    unfold dstsOps at hl
    rcases List.mem_cons.1 hm with rfl | hm'
    · rw [hod] at hl; simp only [allLt, Bool.and_eq_true] at hl; exact Nat.le_of_ble_eq_true hl.1
    · cases hx : x.dst with
      | none => rw [hx] at hl; exact ih hm' hl
      | some y => rw [hx] at hl; simp only [allLt, Bool.and_eq_true] at hl; exact ih hm' hl.2

theorem mem_dsts {S : List Nat} {i : Nat} : ∀ {l : List Oper}, memS i (dstsOps l) = false → ∀ o ∈ l, ∀ x, o.dst = some x → Nat.beq i x = false
  | [], _, o, ho, _, _ => by cases ho
  | y :: l, h, o, ho, x, hx => by
    unfold dstsOps at h
    rcases List.mem_cons.1 ho with rfl | ho'
    · rw [hx] at h
      simp only [memS] at h
      cases hb : Nat.beq i x with
      | true => rw [hb] at h; cases h
      | false => rfl
    · cases hy : y.dst with
      | none => rw [hy] at h; exact mem_dsts (S := S) h o ho' x hx
      | some z =>
        rw [hy] at h
        simp only [memS] at h
        cases hb : Nat.beq i z with
        | true => rw [hb] at h; cases h
        | false => rw [hb] at h; exact mem_dsts (S := S) h o ho' x hx

theorem vcOpsP_sound (hT : TabOk P T) {ops : Array Oper} (hall : allLt n (dstsOps ops.toList) = true)
    {K : St → Prop} {Kq : Act → Prop} {ds : List Deferred} {σ0 : St} {w : World} (hQ : ∀ a' σ', Ag n a' σ' → a'.defers = ds → Fr (dstsOps ops.toList) σ0 σ' → K σ' → Kq a') :
    ∀ (rest : List Oper), (∀ o ∈ rest, o ∈ ops.toList) → ∀ (σ : St) (a : Act), vcOpsP P T w K rest σ → Ag n a σ → a.defers = ds → Fr (dstsOps ops.toList) σ0 σ → wpPure P ops Kq rest a
  | [], _, σ, a, h, hag, hds, hf => hQ a σ hag hds hf h
  | o :: rest, hm, σ, a, h, hag, hds, hf => by
    unfold vcOpsP at h
    cases hg : o.guard with
    | some g => rw [hg] at h; exact h.elim
    | none =>
      rw [hg] at h
      obtain ⟨hp, h1⟩ := bW_spec h
      obtain ⟨v, hK, hr⟩ := vcQ_pure hT hp h1
      have ho := hm o (by simp)
      refine ⟨v, ⟨.inl ⟨by unfold Region.wanted; rw [hg], fun w' => by rw [hag.eval]; exact hr w'⟩, fun w' => pure_about hp _ _⟩, ?_⟩
      exact vcOpsP_sound hT hall hQ rest (fun x hx => hm x (by simp [hx])) _ _ hK (hag.put (fun x hx => dst_lt ho hall hx) v) (by cases o.dst <;> exact hds)
        (fun i hi => (updo_frame (fun x hx => mem_dsts (S := []) hi o ho x hx)).trans (hf i hi))

theorem mem_dstsOps_take {i : Nat} : ∀ {l : List Oper} {h : Nat}, memS i (dstsOps l) = false → memS i (dstsOps (l.take h)) = false ∧ memS i (dstsOps (l.drop h)) = false
  | [], h, hm => by simp [dstsOps, memS]
  | o :: l, 0, hm => ⟨rfl, hm⟩
  | o :: l, h + 1, hm => by
    simp only [List.take_succ_cons, List.drop_succ_cons]
    unfold dstsOps at hm
    cases hx : o.dst with
    | none =>
      rw [hx] at hm
      obtain ⟨h1, h2⟩ := mem_dstsOps_take (h := h) hm
      refine ⟨?_, h2⟩
      unfold dstsOps; rw [hx]; exact h1
    | some x =>
      rw [hx] at hm
      simp only [memS] at hm
      cases hb : Nat.beq i x with
      | true => rw [hb] at hm; cases hm
      | false =>
        rw [hb] at hm
        obtain ⟨h1, h2⟩ := mem_dstsOps_take (h := h) hm
        refine ⟨?_, h2⟩
        unfold dstsOps; rw [hx]; simp only [memS, hb]; exact h1

/-- What is asked where code is left. -/
def lift (n : Nat) (S : List Nat) (σ : St) (Q : Post) : Exit → Act → World → Prop := fun e a' w' => ∃ σ', Ag n a' σ' ∧ Fr S σ σ' ∧ Q e σ' a'.defers w'
/-- It is left by no panic. -/
def NP (Q : Post) : Prop := ∀ c σ ds w, ¬ Q (.panic c) σ ds w
theorem NP.lift {S : List Nat} {σ : St} {Q : Post} (h : NP Q) : ∀ c a w, ¬ Vc.lift n S σ Q (.panic c) a w := fun c _ w ⟨_, _, _, hq⟩ => h c _ _ w hq
theorem NP.then {next : St → List Deferred → World → Prop} {Q : Post} (h : NP Q) : NP (thenP next Q) := fun c σ ds w hq => h c σ ds w hq
theorem NP.block {id : Nat} {Q : Post} (h : NP Q) : NP (blockP id Q) := fun c σ ds w hq => h c σ ds w hq
theorem NP.no : NP noP := fun _ _ _ _ h => h
theorem NP.round {L : Nat} {rc : LoopState → Option Code → Obj} {R : Ending → World → Prop} : NP (roundP L rc R) := fun _ _ _ _ h => h

theorem region_sound (hT : TabOk P T) (hB : ∀ g, B g = true → ∀ args w, (callFunc g args).run P w = .ok (.enter g args) w) (hm : P.follows .mixedOrders = true) {id : Nat} {ops : Array Oper} {draw : Bool} {pl : Plan} {l : Option Nat} {k : Nat}
    {RF : Code → Post → St → List Deferred → World → Prop} (hRF : ∀ c Q σ ds w, RF c Q σ ds w → ∀ l a, Ag n a σ → a.defers = ds → c.wpIn (anyF l) k P (lift n (writes c) σ Q) a w)
    {top : Bool} (htl : top = true → l = none) (hok : codeOk n pl top (.region id ops draw) = true) {Q : Post} (hnp : NP Q) {σ : St} {ds : List Deferred} {w : World} (h : vc P T B pl RF (.region id ops draw) top Q σ ds w) {a : Act} (hag : Ag n a σ) (hds : a.defers = ds) :
    (Code.region id ops draw).wpIn (anyF l) k P (lift n (dstsOps ops.toList) σ Q) a w := by
  simp only [codeOk, Bool.and_eq_true] at hok
  obtain ⟨⟨hall, hnd⟩, hh⟩ := hok
  simp only [vc] at h
  cases draw with
  | false =>
    simp only at h
    refine wpIn_region ?_
    have := vcOps_sound (l := l) (k := k) (Q' := lift n (dstsOps ops.toList) σ Q) (S := dstsOps ops.toList) (σ0 := σ) (ds := ds) hT hB hall hnd
      (fun a' σ' w' h1 h2 h3 h4 => ⟨σ', h1, h3, by rw [h2]; exact h4⟩) ops.toList (fun o ho => by simpa using ho) (fun i hi => hi) σ w a h hag hds (Fr.refl _ _)
    have := wpOpsIn_of_list ops.toList 0 a w (fun j => by simp) this
    rwa [show List.range ops.size = List.range' 0 ops.toList.length by simp [List.range_eq_range']]
  | true =>
    simp only at h hh
    cases hp : pl.head id with
    | none => rw [hp] at h; exact hRF _ _ _ _ _ h l a hag hds
    | some m =>
      obtain ⟨pre, qs, ts⟩ := m
      rw [hp] at h hh
      simp only [Bool.and_eq_true] at h hh
      obtain ⟨hh, hpt⟩ := hh
      have sub : ∀ is, ∀ o ∈ getOps ops is, o ∈ ops.toList := by
        intro is
        induction is with
        | nil => intro o ho; cases ho
        | cons i is ih =>
          intro o ho
          cases hi : ops[i]? with
          | none =>
            have : getOps ops (i :: is) = getOps ops is := by
              show (match getOps.nthO ops.toList i with | some o => o :: getOps ops is | none => getOps ops is) = _
              rw [getOps_nth, Array.getElem?_toList, hi]
            rw [this] at ho; exact ih o ho
          | some x =>
            rw [getOps_cons hi] at ho
            rcases List.mem_cons.1 ho with rfl | ho
            · rw [← Array.mem_def]; exact Array.mem_of_getElem? hi
            · exact ih o ho
      have subS : ∀ is i, memS i (dstsOps ops.toList) = false → memS i (dstsOps (getOps ops is)) = false := by
        intro is i hi
        have : ∀ l : List Oper, (∀ o ∈ l, o ∈ ops.toList) → memS i (dstsOps l) = false := by
          intro l
          induction l with
          | nil => intro _; rfl
          | cons o l ih =>
            intro hl
            unfold dstsOps
            cases hx : o.dst with
            | none => exact ih fun o ho => hl o (by simp [ho])
            | some x =>
              simp only [memS]
              rw [mem_dsts (S := []) hi o (hl o (by simp)) x hx]
              exact ih fun o ho => hl o (by simp [ho])
        exact this _ (sub is)
      have mem : ∀ is, ∀ o ∈ getOps ops is, o ∈ ops := fun is o ho => by rw [Array.mem_def]; exact sub is o ho
      refine wpIn_region_head (l := l) (m := k) (id := id) (C := Drew w) pre qs ts hm hh (by
        cases htop : top with
        | true => rw [htop] at htl; exact .inr ⟨htl rfl, hnp.lift⟩
        | false => rw [htop] at hpt; simp at hpt; exact .inl hpt) ⟨1, rfl⟩ ?_
      refine vcOpsP_sound (σ0 := σ) (ds := ds) hT hall ?_ _ (sub pre) σ a h hag hds (Fr.refl _ _)
      intro a1 σ1 h1 h2 h3 h4
      refine vcOpsQ_sound (S := dstsOps ops.toList) (σ0 := σ) (ds := ds) hT hB hall ?_ _ (mem qs) (subS qs) σ1 a1 h4 h1 h2 h3
      intro a' σ' h1 h2 h3 h4 w' hw'
      exact vcOps_sound (l := l) (k := k) (Q' := lift n (dstsOps ops.toList) σ Q) (S := dstsOps ops.toList) (σ0 := σ) (ds := ds) hT hB hall hnd
        (fun a' σ' w' h1 h2 h3 h4 => ⟨σ', h1, h3, by rw [h2]; exact h4⟩) _ (mem ts) (subS ts) σ' w' a' (h4 w' hw') h1 h2 h3

/-! ### Loops and cuts -/
theorem allT_spec : ∀ {L : Slots} {X : Tup L → Prop}, allT L X → ∀ t, X t
  | [], _, h, _ => h
  | (_, _) :: r, _, h, (x, t) => allT_spec (L := r) (CK.all_spec h x) t
theorem withT_spec : ∀ {L : Slots} {σ : St} {X : Tup L → Prop}, withT L σ X → ∃ t, X t ∧ ∀ (S : List Nat) (σ0 : St), (∀ i, memS i S = false → σ i = σ0 i) → ∀ i, havoc L t S σ σ0 i = σ i
  | [], σ, X, h => ⟨(), h, fun S σ0 hs i => by
      show cond (memS i S) (σ i) (σ0 i) = σ i
      cases hb : memS i S with
      | true => rfl
      | false => exact (hs i hb).symm⟩
  | (j, c) :: r, σ, X, h => by
    obtain ⟨x, hx, h1⟩ := CK.on_spec h
    obtain ⟨t, h2, h3⟩ := withT_spec (L := r) h1
    refine ⟨(x, t), h2, fun S σ0 hs i => ?_⟩
    show cond (Nat.beq i j) (toV c x) (havoc r t S σ σ0 i) = σ i
    cases hb : Nat.beq i j with
    | true => have := Nat.eq_of_beq_eq_true hb; subst this; exact hx.symm
    | false => exact h3 S σ0 hs i
theorem havoc_frame : ∀ {L : Slots} {t : Tup L} {S : List Nat} {junk σ : St} {i : Nat}, memS i S = false → (∀ j c, (j, c) ∈ L → Nat.beq i j = false) → havoc L t S junk σ i = σ i
  | [], _, S, junk, σ, i, hS, _ => by show cond (memS i S) (junk i) (σ i) = σ i; rw [hS]; rfl
  | (j, c) :: r, (x, t), S, junk, σ, i, hS, hL => by
    show cond (Nat.beq i j) (toV c x) (havoc r t S junk σ i) = σ i
    rw [hL j c (by simp)]
    exact havoc_frame (L := r) hS fun j' c' h' => hL j' c' (by simp [h'])

theorem slotsIn_spec : ∀ {L : Slots} {S : List Nat}, slotsIn L S = true → ∀ j c, (j, c) ∈ L → memS j S = true
  | [], _, _, j, c, h => by cases h
  | (i, c0) :: l, S, h, j, c, hm => by
    simp only [slotsIn, Bool.and_eq_true] at h
    rcases List.mem_cons.1 hm with e | hm'
    · cases e; exact h.1
    · exact slotsIn_spec h.2 j c hm'

theorem havoc_Fr {c : Code} {L : Slots} {S : List Nat} (hp : planOk c (L, S) = true) (t : Tup L) (junk σ : St) : Fr (writes c) σ (havoc L t S junk σ) := fun i hi => by
  simp only [planOk, Bool.and_eq_true] at hp
  refine havoc_frame (memS_sub hp.1.2 hi) fun j c' hj => ?_
  cases hb : Nat.beq i j with
  | false => rfl
  | true =>
    have := Nat.eq_of_beq_eq_true hb; subst this
    rw [slotsIn_spec hp.2 _ _ hj] at hi; cases hi

/-- Where a piece has come to its end, the slots hold what they are told to hold. -/
theorem havoc_back {c : Code} {L : Slots} {S : List Nat} (hp : planOk c (L, S) = true) {a : Act} {σ σ' : St} (hag : Ag n a σ') (hf : Fr (writes c) σ σ') {X : Tup L → Prop} (h : withT L σ' X) :
    ∃ t, X t ∧ Ag n a (havoc L t S σ' σ) := by
  simp only [planOk, Bool.and_eq_true] at hp
  obtain ⟨t, h1, h2⟩ := withT_spec h
  exact ⟨t, h1, hag.congr fun i => (h2 S σ (fun i hi => hf i (memS_sub hp.1.1 hi)) i).symm⟩

theorem then_eq {next : Act → World → Prop} {Q : Exit → Act → World → Prop} {e : Exit} {a : Act} {w : World} (h : e ≠ .normal) (hq : Q e a w) : Exit.then next Q e a w := by cases e <;> first | exact absurd rfl h | exact hq

theorem jumpW_spec {L : Nat} {rec : LoopState → Option Code → Obj} {Q : Post} {σ : St} {ds : List Deferred} {w : World} : ∀ {l : List Nat}, jumpW L rec Q σ ds w l →
    (∃ st, st ≠ .busy ∧ w.heap[L]? = some (rec st none) ∧ Q .normal σ ds (w.putObj L (rec .exhausted none))) ∨
    (∃ st, st ≠ .busy ∧ w.heap[L]? = some (rec st (some .ret)) ∧ Q .ret σ ds (w.putObj L (rec .exhausted (some .ret)))) ∨
    (∃ i st, st ≠ .busy ∧ w.heap[L]? = some (rec st (some (.exit i))) ∧ Q (.exit i) σ ds (w.putObj L (rec .exhausted (some (.exit i)))))
  | [], h => h.elim .inl fun h => .inr (.inl h)
  | i :: l, h => h.elim (fun ⟨st, a, b, c⟩ => .inr (.inr ⟨i, st, a, b, c⟩)) jumpW_spec

theorem allArgs_mk : ∀ {cs : List CK} {X : List Value → Prop}, (∀ xs, xs.length = cs.length → X xs) → allArgs cs X
  | [], _, h => h [] rfl
  | c :: cs, X, h => by
    have : ∀ x : CKT c, allArgs cs fun vs => X (toV c x :: vs) := fun x => allArgs_mk fun xs hx => h _ (by simp [hx])
    cases c <;> first | exact this | exact fun a n c => this (a, n, c)

theorem Ag.zipL : ∀ {ps : List Tmp} {xs : List Value} {t : Array Value} {σ : St} {ds : List Deferred}, Ag n { tmps := t, defers := ds } σ → allLt n ps = true →
    Ag n { tmps := (ps.zip xs).foldl (fun t (p : Tmp × Value) => t.setIfInBounds p.1 p.2) t, defers := ds } (updPs σ ps xs)
  | [], xs, t, σ, ds, h, _ => h
  | p :: ps, [], t, σ, ds, h, _ => h
  | p :: ps, x :: xs, t, σ, ds, h, hp => by
    simp only [allLt, Bool.and_eq_true] at hp
    have h1 := h.put (d := some p) (fun y hy => by cases hy; exact Nat.le_of_ble_eq_true hp.1) x
    exact Ag.zipL (ps := ps) (xs := xs) h1 hp.2
theorem Ag.zip {a : Act} {σ : St} (h : Ag n a σ) {ps : Array Tmp} {xs : List Value} (hp : allLt n ps.toList = true) :
    Ag n { tmps := (ps.zip (⟨xs⟩ : Array Value)).foldl (fun t (p, v) => t.setIfInBounds p v) a.tmps, defers := [] } (updPs σ ps.toList xs) := by
  have := Ag.zipL (xs := xs) (t := a.tmps) (ds := []) (show Ag n { tmps := a.tmps, defers := [] } σ from h) hp
  rw [← Array.foldl_toList, Array.toList_zip]
  exact this

theorem vc_sound (hT : TabOk P T) (hB : ∀ g, B g = true → ∀ args w, (callFunc g args).run P w = .ok (.enter g args) w) (hm : P.follows .mixedOrders = true) {pl : Plan} {k : Nat}
    {RF : Code → Post → St → List Deferred → World → Prop} (hRF : ∀ c Q σ ds w, RF c Q σ ds w → ∀ l a, Ag n a σ → a.defers = ds → c.wpIn (anyF l) k P (lift n (writes c) σ Q) a w) :
    ∀ (c : Code) (top : Bool), codeOk n pl top c = true → ∀ (l : Option Nat), (top = true → l = none) → ∀ (Q : Post), NP Q → ∀ (σ : St) (ds : List Deferred) (w : World) (a : Act), vc P T B pl RF c top Q σ ds w → Ag n a σ → a.defers = ds → c.wpIn (anyF l) k P (lift n (writes c) σ Q) a w := by
  intro c
  induction c with
  | skip => intro top _ l htl Q hnp σ ds w a h hag hds; exact wpIn_skip ⟨σ, hag, Fr.refl _ _, by rw [hds]; exact h⟩
  | label i => intro top _ l htl Q hnp σ ds w a h hag hds; exact wpIn_label ⟨σ, hag, Fr.refl _ _, by rw [hds]; exact h⟩
  | region id ops draw => intro top hok l htl Q hnp σ ds w a h hag hds; exact region_sound hT hB hm hRF htl hok hnp h hag hds
  | exit id => intro top _ l htl Q hnp σ ds w a h hag hds; exact wpIn_exit ⟨σ, hag, Fr.refl _ _, by rw [hds]; exact h⟩
  | ret => intro top _ l htl Q hnp σ ds w a h hag hds; exact wpIn_ret ⟨σ, hag, Fr.refl _ _, by rw [hds]; exact h⟩
  | rangeFunc g ps x y ih1 ih2 =>
    intro top hok l htl Q hnp σ ds w a h hag hds
    cases top with
    | false => exact hRF _ _ _ _ _ h l a hag hds
    | true =>
      have := htl rfl; subst this
      simp only [codeOk, Bool.and_eq_true] at hok
      obtain ⟨⟨⟨hx, hy⟩, hps⟩, hlen⟩ := hok
      have hlen := Nat.eq_of_beq_eq_true hlen
      simp only [vc] at h
      obtain ⟨gf, first, caps, hg, h1⟩ := onFunc_spec h
      obtain ⟨hgf, h2⟩ := bW_spec h1
      refine wpIn_rangeFunc ?_
      intro fn _
      have hro : (anyF none).round = none := rfl
      rw [hro]
      let rc : LoopState → Option Code → Obj := fun st pe => .loop { state := st, pending := pe, fn, tmps := a.tmps, params := ps, assign := x, body := y, defers := w.heap.size }
      have rounds : ∀ R : Ending → World → Prop, allArgs (pl.rng (rid y)) fun xs => ∀ w', w'.heap[w.heap.size + 1]? = some (rc .ready none) →
          vc P T B pl RF x false (thenP (fun σ1 ds1 w1 => w1.heap[w.heap.size + 1]? = some (rc .ready none) ∧ vc P T B pl RF y false (roundP (w.heap.size + 1) rc R) σ1 ds1 (w1.putObj (w.heap.size + 1) (rc .busy none))) noP) (updPs σ ps.toList xs) [] w' →
          callV P B (.func (.yield (w.heap.size + 1)) #[] #[]) xs w' R := by
        refine fun R => allArgs_mk fun xs hxs w' hl hb => ?_
        refine ⟨fn, _, x, y, run_yield (args := ⟨xs⟩) hl (by simp [hxs, ← hlen]), ?_⟩
        have hag1 := hag.zip (xs := xs) hps
        refine round_any (l := none) (k := k) (roundIn_of_wpIn trivial ?_)
        refine wpIn_mono (ih1 false hx (some (w.heap.size + 1)) (by simp) _ NP.no.then _ [] w' _ hb hag1 rfl) ?_
        rintro e a1 w1 ⟨σ1, g1, g2, g3⟩
        cases e with
        | normal =>
          obtain ⟨g4, g5⟩ := g3
          refine ⟨_, run_beginRound g4 rfl, ?_⟩
          refine wpIn_mono (ih2 false hy (some (w.heap.size + 1)) (by simp) _ NP.round σ1 _ _ a1 g5 g1 rfl) ?_
          rintro e a2 w2 ⟨σ2, k1, k2, k3⟩
          cases e with
          | normal => exact ⟨_, _, run_endRound none k3.1, k3.2⟩
          | ret => exact ⟨_, _, run_endRound (some .ret) k3.1, k3.2⟩
          | exit id => exact ⟨_, _, run_endRound (some (.exit id)) k3.1, k3.2⟩
          | goto t => exact k3.elim
          | panic ch => exact k3.elim
          | outgrown => exact k3.elim
        | exit id => exact g3.elim
        | goto t => exact g3.elim
        | ret => exact g3.elim
        | panic ch => exact g3.elim
        | outgrown => exact g3.elim
      have h3 := h2 (.func (.yield (w.heap.size + 1)) #[] #[]) rc rounds
      refine ⟨w.heap.size + 1, [{ target := .collected w.heap.size, args := #[] }], _, { target := .fn (.func gf) ⟨caps⟩, args := (⟨first⟩ : Array Value) ++ #[.func (.yield (w.heap.size + 1)) #[] #[]] }, (w.alloc (.deferred (some []))).alloc (rc .ready none), gf, ⟨first ++ [.func (.yield (w.heap.size + 1)) #[] #[]] ++ caps⟩, (w.alloc (.deferred (some []))).alloc (rc .ready none), run_enterLoop_outer fn a.tmps ps x y, ?_, fun _ _ => trivial, ?_, fun h => by simp [anyF, Fence.wide] at h, ?_⟩
      · simp only [resolve]
        have : a.eval g = .func (.func gf) ⟨first⟩ ⟨caps⟩ := by rw [hag.eval]; exact hg
        rw [this, show Array.map a.eval #[Operand.const (Value.func (Fn.yield (w.heap.size + 1)) #[] #[])] = #[.func (.yield (w.heap.size + 1)) #[] #[]] from by simp [Act.eval]]
        rfl
      · simp only [invoke]
        rw [show (⟨first⟩ : Array Value) ++ #[.func (.yield (w.heap.size + 1)) #[] #[]] ++ (⟨caps⟩ : Array Value) = ⟨first ++ [.func (.yield (w.heap.size + 1)) #[] #[]] ++ caps⟩ by apply Array.toList_inj.1; simp]
        exact hB gf hgf _ _
      · refine callsIn_any (h3.mono ?_)
        rintro e w2 ⟨⟨v, rfl⟩, hj⟩
        have hag2 : Ag n { a with defers := [{ target := .collected w.heap.size, args := #[] }] ++ a.defers } σ := hag
        rcases jumpW_spec hj with ⟨st, hst, hh, hq⟩ | ⟨st, hst, hh, hq⟩ | ⟨i, st, hst, hh, hq⟩
        · exact ⟨none, _, run_endLoop hh hst, σ, hag2, Fr.refl _ _, by rw [← hds] at hq; exact hq⟩
        · exact ⟨some .ret, _, run_endLoop hh hst, wpIn_ret ⟨σ, hag2, Fr.refl _ _, by rw [← hds] at hq; exact hq⟩⟩
        · exact ⟨some (.exit i), _, run_endLoop hh hst, wpIn_exit ⟨σ, hag2, Fr.refl _ _, by rw [← hds] at hq; exact hq⟩⟩
  | scope c ih => intro top _ l htl Q hnp σ ds w a h hag hds; exact h.elim
  | goto t => intro top _ l htl Q hnp σ ds w a h hag hds; exact h.elim
  | refuse s => intro top _ l htl Q hnp σ ds w a h hag hds; exact h.elim
  | cond c x y ihx ihy =>
    intro top hok l htl Q hnp σ ds w a h hag hds
    simp only [codeOk, Bool.and_eq_true] at hok
    obtain ⟨b, hb, h1⟩ := onBool_spec h
    have he : a.eval c = .bool b := by rw [hag.eval]; exact hb
    have hk : ∀ i, known σ c b i = σ i := by
      intro i
      cases c with
      | tmp t => exact upd_known hb i
      | _ => rfl
    refine wpIn_cond he ?_
    cases b with
    | true =>
      refine wpIn_mono (ihx top hok.1 l htl Q hnp _ ds w a h1 (hag.congr fun i => (hk i).symm) hds) ?_
      rintro e a' w' ⟨σ', g1, g2, g3⟩
      exact ⟨σ', g1, Fr.left fun i hi => (g2 i hi).trans (hk i), g3⟩
    | false =>
      refine wpIn_mono (ihy top hok.2 l htl Q hnp _ ds w a h1 (hag.congr fun i => (hk i).symm) hds) ?_
      rintro e a' w' ⟨σ', g1, g2, g3⟩
      exact ⟨σ', g1, Fr.right fun i hi => (g2 i hi).trans (hk i), g3⟩
  | block id c ih =>
    intro top hok l htl Q hnp σ ds w a h hag hds
    refine wpIn_block (wpIn_mono (ih top hok l htl (blockP id Q) hnp.block σ ds w a h hag hds) ?_)
    rintro e a' w' ⟨σ', g1, g2, g3⟩
    cases e with
    | exit id' =>
      simp only [Exit.inBlock]
      simp only [blockP] at g3
      by_cases hid : id' = id
      · subst hid
        have : Nat.beq id' id' = true := by simp
        rw [this] at g3
        rw [if_pos rfl]
        exact ⟨σ', g1, g2, g3⟩
      · have : Nat.beq id' id = false := by
          cases hb : Nat.beq id' id with
          | false => rfl
          | true => exact absurd (Nat.eq_of_beq_eq_true hb) hid
        rw [this] at g3
        rw [if_neg hid]
        exact ⟨σ', g1, g2, g3⟩
    | _ => exact ⟨σ', g1, g2, g3⟩
  | seq x y ihx ihy =>
    intro top hok l htl Q hnp σ ds w a h hag hds
    simp only [codeOk, Bool.and_eq_true] at hok
    obtain ⟨⟨hx, hy⟩, hc⟩ := hok
    simp only [vc] at h
    cases hcut : pl.cuts (rid y) with
    | none =>
      rw [hcut] at h
      refine wpIn_seq (wpIn_mono (ihx top hx l htl _ hnp.then σ ds w a h hag hds) ?_)
      rintro e a' w' ⟨σ', g1, g2, g3⟩
      cases e with
      | normal =>
        refine wpIn_mono (ihy top hy l htl Q hnp σ' _ w' a' g3 g1 rfl) ?_
        rintro e2 a2 w2 ⟨σ2, k1, k2, k3⟩
        exact ⟨σ2, k1, g2.trans k2, k3⟩
      | _ => exact ⟨σ', g1, Fr.left g2, g3⟩
    | some p =>
      obtain ⟨L, S⟩ := p
      rw [hcut] at h hc
      obtain ⟨J, h1, h2⟩ := h
      refine wpIn_seq (wpIn_mono (ihx top hx l htl _ hnp.then σ ds w a h1 hag hds) ?_)
      rintro e a' w' ⟨σ', g1, g2, g3⟩
      cases e with
      | normal =>
        obtain ⟨g4, g5⟩ := dsW_spec g3
        obtain ⟨t, hJ, hag2⟩ := havoc_back hc g1 g2 g5
        refine wpIn_mono (ihy top hy l htl Q hnp _ ds w' a' (allT_spec (h2 σ') t w' hJ) hag2 g4) ?_
        rintro e2 a2 w2 ⟨σ2, k1, k2, k3⟩
        exact ⟨σ2, k1, (havoc_Fr hc t σ' σ).trans k2, k3⟩
      | _ => exact ⟨σ', g1, Fr.left g2, g3⟩
  | loop c ih =>
    intro top hok l htl Q hnp σ ds w a h hag hds
    simp only [codeOk, Bool.and_eq_true] at hok
    obtain ⟨hc, hp⟩ := hok
    simp only [vc] at h
    obtain ⟨I, μ, h0, h1⟩ := h
    have hp : planOk c ((pl.loops (lid c)).1, (pl.loops (lid c)).2) = true := hp
    obtain ⟨t0, hI0, hag0⟩ := havoc_back (σ := σ) hp hag (Fr.refl _ _) h0
    refine wpIn_loop (fun a w => ∃ m, ∃ t junk, I t w ∧ μ t w = m ∧ Ag n a (havoc (pl.loops (lid c)).1 t (pl.loops (lid c)).2 junk σ) ∧ a.defers = ds)
      (fun a w => leastOf fun m => ∃ t junk, I t w ∧ μ t w = m ∧ Ag n a (havoc (pl.loops (lid c)).1 t (pl.loops (lid c)).2 junk σ) ∧ a.defers = ds) ⟨_, t0, σ, hI0, rfl, hag0, hds⟩ ?_
    intro a1 w1 hI
    obtain ⟨hl, _⟩ := leastOf_spec hI
    obtain ⟨t, junk, hIt, hμ, hag1, hds1⟩ := hl
    refine wpIn_mono (ih top hc l htl _ hnp.then _ ds w1 a1 (allT_spec (h1 junk) t w1 hIt) hag1 hds1) ?_
    rintro e a' w' ⟨σ', g1, g2, g3⟩
    have hfr : Fr (writes c) σ σ' := fun i hi => (g2 i hi).trans (havoc_Fr hp t junk σ i hi)
    cases e with
    | normal =>
      obtain ⟨g4, g5⟩ := dsW_spec g3
      obtain ⟨t', ⟨hI', hμ'⟩, hag'⟩ := havoc_back (σ := σ) hp g1 hfr g5
      have hex : ∃ m, ∃ t junk, I t w' ∧ μ t w' = m ∧ Ag n a' (havoc (pl.loops (lid c)).1 t (pl.loops (lid c)).2 junk σ) ∧ a'.defers = ds := ⟨_, t', σ', hI', rfl, hag', g4⟩
      exact show (∃ m, ∃ t junk, I t w' ∧ μ t w' = m ∧ Ag n a' (havoc (pl.loops (lid c)).1 t (pl.loops (lid c)).2 junk σ) ∧ a'.defers = ds) ∧ _ < _ from
        ⟨hex, Nat.lt_of_le_of_lt ((leastOf_spec hex).2 _ ⟨t', σ', hI', rfl, hag', g4⟩) (by rw [← hμ]; exact hμ')⟩
    | _ => exact ⟨σ', g1, hfr, g3⟩

/-! ### A function -/
/-- The results, read where the function ends. -/
def resW (T : TypeId → Option TI) : List ResultVar → List Value → St → World → (List Value → Prop) → Prop
  | [], acc, _, _, K => K acc
  | .tmp t :: r, acc, σ, w, K => resW T r (acc ++ [σ t]) σ w K
  | .cell a t :: r, acc, σ, w, K => onPtr (σ a) fun p => ptrW p fun ad => tyW T t fun i => loadW i.sh ad w fun v => resW T r (acc ++ [v]) σ w K
def one (l : List Value) : Value := match l with | [v] => v | l => .tuple ⟨l⟩

/-- The marks that ranges over functions have left among the deferred calls are taken up. -/
def marksW : List Deferred → World → (World → Prop) → Prop
  | [], w, K => K w
  | d :: ds, w, K => match d.target with | .collected D => w.heap[D]? = some (.deferred (some [])) ∧ marksW ds (w.putObj D (.deferred none)) K | _ => False

def retP (T : TypeId → Option TI) (rs : List ResultVar) (R : Ending → World → Prop) : Post
  | .normal, σ, ds, w => marksW ds w fun w' => resW T rs [] σ w' fun l => R (.returned (one l)) w'
  | .ret, σ, ds, w => marksW ds w fun w' => resW T rs [] σ w' fun l => R (.returned (one l)) w'
  | _, _, _, _ => False

def initS (args : List Value) : St := fun i => lget args i
where lget : List Value → Nat → Value
  | [], _ => undef
  | v :: _, 0 => v
  | _ :: l, i + 1 => lget l i

/-- A FUNCTION's CONDITION. -/
def vcFun (P : Program) (T : TypeId → Option TI) (B : FuncId → Bool) (pl : Plan) (RF : Code → Post → St → List Deferred → World → Prop) (rs : List ResultVar) (c : Code) (args : List Value) (R : Ending → World → Prop) (w : World) : Prop :=
  vc P T B pl RF c true (retP T rs R) (initS args) [] w

theorem lget_get : ∀ (l : List Value) (i : Nat), initS.lget l i = (l[i]?).getD undef
  | [], i => by simp [initS.lget]
  | v :: _, 0 => rfl
  | _ :: l, i + 1 => by simpa [initS.lget] using lget_get l i

theorem resW_run (hT : TabOk P T) {σ : St} {a : Act} {w : World} (hag : Ag n a σ) : ∀ {rs : List ResultVar} {acc : List Value} {K : List Value → Prop}, resW T rs acc σ w K →
    ∃ l, K (acc ++ l) ∧ (rs.mapM fun | .tmp t => pure (a.tmps.getD t undef) | .cell x t => do loadVar t (← asAddr (a.tmps.getD x undef)) : Sem (List Value)).run P w = .ok l w
  | [], acc, K, h => ⟨[], by simpa [resW] using h, rfl⟩
  | .tmp t :: r, acc, K, h => by
    obtain ⟨l, h1, h2⟩ := resW_run hT hag (rs := r) h
    refine ⟨σ t :: l, by simpa using h1, ?_⟩
    rw [List.mapM_cons, Sem.run_bind]
    simp only [Sem.run_pure, Result.andThen]
    rw [Sem.run_bind, h2, hag.2 t]; rfl
  | .cell x t :: r, acc, K, h => by
    obtain ⟨p, hp, h1⟩ := onPtr_spec h
    obtain ⟨ad, rfl, h2⟩ := ptrW_spec h1
    obtain ⟨i, hi, h3⟩ := tyW_spec h2
    obtain ⟨v, h4, hv⟩ := loadW_run hT hi h3
    obtain ⟨l, h5, h6⟩ := resW_run hT hag (rs := r) h4
    refine ⟨v :: l, by simpa using h5, ?_⟩
    rw [List.mapM_cons, Sem.run_bind]
    have hl : (do loadVar t (← asAddr (a.tmps.getD x undef)) : Sem Value).run P w = .ok v w := by
      rw [hag.2 x, hp, Sem.run_bind]; simp only [asAddr, Sem.run_pure, Result.andThen]; exact hv w rfl
    refine (congrArg (fun z => Result.andThen z _) hl).trans ?_
    simp only [Result.andThen]
    rw [Sem.run_bind, h6]; rfl

theorem results_run (hT : TabOk P T) {fn : Func} {σ : St} {a : Act} {w : World} (hag : Ag n a σ) {K : List Value → Prop} (h : resW T fn.results.toList [] σ w K) :
    ∃ l, K l ∧ (results fn a.tmps).run P w = .ok (one l) w := by
  obtain ⟨l, h1, h2⟩ := resW_run hT hag h
  refine ⟨l, by simpa using h1, ?_⟩
  unfold results
  rw [Sem.run_bind, Array.mapM_eq_mapM_toList]
  have : (List.toArray <$> (fn.results.toList.mapM fun | .tmp t => pure (a.tmps.getD t undef) | .cell x t => do loadVar t (← asAddr (a.tmps.getD x undef)) : Sem (List Value))).run P w = .ok l.toArray w := by
    rw [Sem.run_map, h2]; rfl
  refine (congrArg (fun z => Result.andThen z _) this).trans ?_
  simp only [Result.andThen]
  rcases l with _ | ⟨v, _ | ⟨u, l⟩⟩
  · rfl
  · rfl
  · simp [one]

theorem marks_run (hT : TabOk P T) {fn : Func} {σ : St} {a : Act} {k : Nat} (hag : Ag n a σ) {R : Ending → World → Prop} : ∀ {ds : List Deferred} {w : World}, marksW ds w (fun w' => resW T fn.results.toList [] σ w' fun l => R (.returned (one l)) w') → LeavesInM (anyF none) k P fn a.tmps R ds .returning w
  | [], w, h => by
    obtain ⟨l, h1, h2⟩ := results_run hT hag h
    exact ⟨_, h2, h1⟩
  | d :: ds, w, h => by
    unfold marksW at h
    split at h
    · rename_i D hD
      exact ⟨by simp, .inl ⟨D, _, hD, run_takeDeferred h.1, marks_run hT hag h.2⟩⟩
    · exact h.elim

/-- A FUNCTION RUNS AS ITS CONDITION SAYS. -/
theorem calls_of_vc (hT : TabOk P T) (hB : ∀ g, B g = true → ∀ args w, (callFunc g args).run P w = .ok (.enter g args) w) (hm : P.follows .mixedOrders = true) {f : FuncId} {fn : Func} {c : Code} {args : List Value} {pl : Plan} {w : World} {R : Ending → World → Prop}
    (hf : P.funcs[f]? = some fn) (hb : fn.body = some c) (hn : args.length ≤ fn.ntmps) (hok : codeOk fn.ntmps pl true c = true)
    (h : vcFun P T B pl (fun c Q σ ds w => ∀ l a, Ag fn.ntmps a σ → a.defers = ds → c.wpIn (anyF l) 1000 P (lift fn.ntmps (writes c) σ Q) a w) fn.results.toList c args R w) : Calls P f ⟨args⟩ w R := by
  refine callsIn_wide (n := 1000) |>.1 (callsIn_of_wp_marks hf hb trivial ?_)
  have hag : Ag fn.ntmps { tmps := (⟨args⟩ : Array Value) ++ Array.replicate (fn.ntmps - (⟨args⟩ : Array Value).size) undef, defers := [] } (initS args) := by
    refine ⟨by simp; omega, fun i => ?_⟩
    show _ = initS.lget args i
    rw [lget_get]
    by_cases hi : i < args.length
    · simp [hi]
      rw [Array.getElem?_append_left (by simpa using hi)]
      simp [hi]
    · simp
      rw [Array.getElem?_append_right (by simpa using Nat.le_of_not_lt hi)]
      rw [List.getElem?_eq_none (by omega)]
      simp
      cases h2 : (Array.replicate (fn.ntmps - args.length) undef)[i - args.length]? with
      | none => rfl
      | some v =>
        obtain ⟨h3, h4⟩ := Array.getElem?_eq_some_iff.1 h2
        simp at h4
        simp [h4]
  refine wpIn_mono (vc_sound (k := 1000) hT hB hm (fun c Q σ ds w h => h) c true hok none (fun _ => rfl) _ (fun _ _ _ _ h => h) _ _ w _ h hag rfl) ?_
  rintro e a' w' ⟨σ', g1, _, g3⟩
  cases e with
  | normal => exact marks_run hT g1 g3
  | ret => exact marks_run hT g1 g3
  | exit id => exact g3.elim
  | goto t => exact g3.elim
  | panic ch => exact g3.elim
  | outgrown => exact g3.elim

end
end Go.Proofs.Ytgepmlgkeljelaa.Vc
