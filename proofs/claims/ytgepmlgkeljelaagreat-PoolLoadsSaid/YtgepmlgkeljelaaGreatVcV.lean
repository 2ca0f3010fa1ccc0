/- The conditions are enough: code. -/
import Derived.Test.YtgepmlgkeljelaaGreatVcY
namespace Go.Proofs.YtgepmlgkeljelaaGreat.Vc
open Go
section
variable {n : Nat} {P : Program} {T : TypeId → Option TI} {B : FuncId → Bool}

/-- What is asked where code is left. -/
def lift (n : Nat) (S : List Nat) (σ : St) (Q : Post) : Exit → Act → World → Prop := fun e a' w' => ∃ σ', Ag n a' σ' ∧ Fr S σ σ' ∧ Q e σ' a'.defers w'
/-- It is left by no panic. -/
def NP (Q : Post) : Prop := ∀ c σ ds w, ¬ Q (.panic c) σ ds w
theorem NP.lift {S : List Nat} {σ : St} {Q : Post} (h : NP Q) : ∀ c a w, ¬ Vc.lift n S σ Q (.panic c) a w := fun c _ w ⟨_, _, _, hq⟩ => h c _ _ w hq
theorem NP.then {next : St → List Deferred → World → Prop} {Q : Post} (h : NP Q) : NP (thenP next Q) := fun c σ ds w hq => h c σ ds w hq
theorem NP.block {id : Nat} {Q : Post} (h : NP Q) : NP (blockP id Q) := fun c σ ds w hq => h c σ ds w hq
theorem NP.scope {Q : Post} (h : NP Q) : NP (scopeP Q) := fun c σ ds w hq => h c σ ds w hq
theorem NP.no : NP noP := fun _ _ _ _ h => h
theorem NP.round {L : Nat} {rc : LoopState → Option Code → Obj} {R : Ending → World → Prop} : NP (roundP L rc R) := fun _ _ _ _ h => h

theorem region_sound (hT : TabOk P T) (hB : ∀ g, B g = true → ∀ args w, (callFunc g args).run P w = .ok (.enter g args) w) (hm : P.follows .mixedOrders = true) {id : Nat} {ops : Array Oper} {draw : Bool} {pl : Plan} {l : Option Nat} {k : Nat}
    {RF : Code → Post → St → List Deferred → World → Prop} (hRF : ∀ c Q σ ds w, RF c Q σ ds w → ∀ l a, Ag n a σ → a.defers = ds → c.wpIn (anyF l) k P (lift n (writes c) σ Q) a w)
    {top : Bool} (htl : top = true → l = none) (hok : codeOk T n pl top (.region id ops draw) = true) {Q : Post} (hnp : NP Q) {σ : St} {ds : List Deferred} {w : World} (h : vc P T B pl RF (.region id ops draw) top Q σ ds w) {a : Act} (hag : Ag n a σ) (hds : a.defers = ds) :
    (Code.region id ops draw).wpIn (anyF l) k P (lift n (dstsOps ops.toList) σ Q) a w := by
  simp only [codeOk, Bool.and_eq_true] at hok
  obtain ⟨⟨hall, hnd0⟩, hh⟩ := hok
  simp only [vc] at h
  cases draw with
  | false =>
    simp only at h
    refine wpIn_region ?_
    cases hhd : hasDefer ops.toList with
    | true =>
      rw [hhd] at h
      obtain ⟨htop, h⟩ := bW_spec h
      have := htl htop; subst this
      have hns : hasSelect ops.toList = false := by
        simp only [Bool.or_eq_true, Bool.and_eq_true, Bool.not_eq_true'] at hnd0
        rcases hnd0 with h1 | h1
        · exfalso
          unfold noDefer at h1
          rw [Array.all_eq_true'] at h1
          have : ∀ (l : List Oper), (∀ o ∈ l, o ∈ ops.toList) → hasDefer l = true → False := by
            intro l
            induction l with
            | nil => intro _ h; cases h
            | cons x l ih =>
              intro hl h
              have hx := h1 x (by simpa using hl x (by simp))
              unfold hasDefer at h
              split at h
              · rename_i heq; rw [heq] at hx; cases hx
              · rename_i heq; rw [heq] at hx; cases hx
              · exact ih (fun o ho => hl o (by simp [ho])) h
          exact this _ (fun o ho => ho) hhd
        · exact h1.2
      have := vcOpsD_sound (k := k) (Q' := lift n (dstsOps ops.toList) σ Q) (S := dstsOps ops.toList) (σ0 := σ) hT hB hall hns
        (fun a' σ' w' h1 h3 h4 => ⟨σ', h1, h3, h4⟩) ops.toList (fun o ho => by simpa using ho) (fun i hi => hi) σ ds w a h hag hds (Fr.refl _ _)
      have := wpOpsIn_of_list ops.toList 0 a w (fun j => by simp) this
      rwa [show List.range ops.size = List.range' 0 ops.toList.length by simp [List.range_eq_range']]
    | false =>
    rw [hhd] at h
    have hnd := hasDefer_no hhd
    have := vcOps_sound (l := l) (k := k) (Q' := lift n (dstsOps ops.toList) σ Q) (S := dstsOps ops.toList) (σ0 := σ) (ds := ds) hT hB hall hnd
      (fun a' σ' w' h1 h2 h3 h4 => ⟨σ', h1, h3, by rw [h2]; exact h4⟩) ops.toList (fun o ho => by simpa using ho) (fun i hi => hi) σ w a h hag hds (Fr.refl _ _)
    have := wpOpsIn_of_list ops.toList 0 a w (fun j => by simp) this
    rwa [show List.range ops.size = List.range' 0 ops.toList.length by simp [List.range_eq_range']]
  | true =>
    have hnd : noDefer ops = true := by
      cases hn : noDefer ops with
      | true => rfl
      | false => rw [hn] at hnd0; simp at hnd0
    simp only at h hh
    cases hp : pl.head id with
    | none =>
      rw [hp] at h hh
      cases hst : pl.stg id with
      | none => rw [hst] at h; exact hRF _ _ _ _ _ h l a hag hds
      | some s0 =>
        rw [hst] at h hh
        obtain ⟨s, anc⟩ := s0
        have hG := stgOk_of hh
        have hok : okStg T ops.toList anc true s 0 [] = true := by simp only [stgB, Bool.and_eq_true] at hh; exact hh.2
        refine wpIn_region_any hm ?_
        refine stg_sound (S := dstsOps ops.toList) (σ0 := σ) (ds := ds) hT hB hall hnd hG (fun a' σ' w' h1 h2 h3 h4 => ⟨σ', h1, h3, by rw [h2]; exact h4⟩) (fun i hi => hi) ops.size s 0 [] σ { w with drawn := w.drawn + 1 } (Array.replicate ops.size false) (fun _ => False) a hok (h _ ⟨1, rfl⟩) ?_ hds (Fr.refl _ _) ?_
        · refine ⟨by simp, fun j oj hj hl => (by rw [getD_replicate_false] at hl; cases hl), fun i hi => ⟨fun h => (by simp [inM] at h), fun h => ?_⟩, fun j oj hj hm => (by simp [inM] at hm), fun e he => he.elim, hag.1, fun d _ => hag.2 d, fun e he => he.elim⟩
          rcases h with h | h
          · rw [getD_replicate_false] at h; cases h
          · exact h.elim
        · unfold unl
          exact Nat.le_trans List.countP_le_length (by simp)
    | some m =>
      obtain ⟨pre, qs, ts⟩ := m
      rw [hp] at h hh
      simp only [Bool.and_eq_true] at h hh
      obtain ⟨hh, hpt⟩ := hh
      have sub : ∀ is, ∀ o ∈ getOps ops is, o ∈ ops.toList := by
        intro is
        induction is with
        | nil => intro o ho; cases ho
        | cons i is ih =>
          intro o ho
          cases hi : ops[i]? with
          | none =>
            have : getOps ops (i :: is) = getOps ops is := by
              show (match getOps.nthO ops.toList i with | some o => o :: getOps ops is | none => getOps ops is) = _
              rw [getOps_nth, Array.getElem?_toList, hi]
            rw [this] at ho; exact ih o ho
          | some x =>
            rw [getOps_cons hi] at ho
            rcases List.mem_cons.1 ho with rfl | ho
            · rw [← Array.mem_def]; exact Array.mem_of_getElem? hi
            · exact ih o ho
      have subS : ∀ is i, memS i (dstsOps ops.toList) = false → memS i (dstsOps (getOps ops is)) = false := by
        intro is i hi
        have : ∀ l : List Oper, (∀ o ∈ l, o ∈ ops.toList) → memS i (dstsOps l) = false := by
          intro l
          induction l with
          | nil => intro _; rfl
          | cons o l ih =>
            intro hl
            unfold dstsOps
            cases hx : o.dst with
            | none => exact ih fun o ho => hl o (by simp [ho])
            | some x =>
              simp only [memS]
              rw [mem_dsts (S := []) hi o (hl o (by simp)) x hx]
              exact ih fun o ho => hl o (by simp [ho])
        exact this _ (sub is)
      have mem : ∀ is, ∀ o ∈ getOps ops is, o ∈ ops := fun is o ho => by rw [Array.mem_def]; exact sub is o ho
      refine wpIn_region_head (l := l) (m := k) (id := id) (C := Drew w) pre qs ts hm hh (by
        cases htop : top with
        | true => rw [htop] at htl; exact .inr ⟨htl rfl, hnp.lift⟩
        | false => rw [htop] at hpt; simp at hpt; exact .inl hpt) ⟨1, rfl⟩ ?_
      refine vcOpsP_sound (σ0 := σ) (ds := ds) hT hall ?_ _ (sub pre) σ a h hag hds (Fr.refl _ _)
      intro a1 σ1 h1 h2 h3 h4
      refine vcOpsQ_sound (S := dstsOps ops.toList) (σ0 := σ) (ds := ds) hT hB hall ?_ _ (mem qs) (subS qs) σ1 a1 h4 h1 h2 h3
      intro a' σ' h1 h2 h3 h4 w' hw'
      exact vcOps_sound (l := l) (k := k) (Q' := lift n (dstsOps ops.toList) σ Q) (S := dstsOps ops.toList) (σ0 := σ) (ds := ds) hT hB hall hnd
        (fun a' σ' w' h1 h2 h3 h4 => ⟨σ', h1, h3, by rw [h2]; exact h4⟩) _ (mem ts) (subS ts) σ' w' a' (h4 w' hw') h1 h2 h3

/-! ### Loops and cuts -/
theorem allT_spec : ∀ {L : Slots} {X : Tup L → Prop}, allT L X → ∀ t, X t
  | [], _, h, _ => h
  | (_, _) :: r, _, h, (x, t) => allT_spec (L := r) (CK.all_spec h x) t
theorem withT_spec : ∀ {L : Slots} {σ : St} {X : Tup L → Prop}, withT L σ X → ∃ t, X t ∧ ∀ (S : List Nat) (σ0 : St), (∀ i, memS i S = false → σ i = σ0 i) → ∀ i, havoc L t S σ σ0 i = σ i
  | [], σ, X, h => ⟨(), h, fun S σ0 hs i => by
      show cond (memS i S) (σ i) (σ0 i) = σ i
      cases hb : memS i S with
      | true => rfl
      | false => exact (hs i hb).symm⟩
  | (j, c) :: r, σ, X, h => by
    obtain ⟨x, hx, h1⟩ := CK.on_spec h
    obtain ⟨t, h2, h3⟩ := withT_spec (L := r) h1
    refine ⟨(x, t), h2, fun S σ0 hs i => ?_⟩
    show cond (Nat.beq i j) (toV c x) (havoc r t S σ σ0 i) = σ i
    cases hb : Nat.beq i j with
    | true => have := Nat.eq_of_beq_eq_true hb; subst this; exact hx.symm
    | false => exact h3 S σ0 hs i
theorem havoc_frame : ∀ {L : Slots} {t : Tup L} {S : List Nat} {junk σ : St} {i : Nat}, memS i S = false → (∀ j c, (j, c) ∈ L → Nat.beq i j = false) → havoc L t S junk σ i = σ i
  | [], _, S, junk, σ, i, hS, _ => by show cond (memS i S) (junk i) (σ i) = σ i; rw [hS]; rfl
  | (j, c) :: r, (x, t), S, junk, σ, i, hS, hL => by
    show cond (Nat.beq i j) (toV c x) (havoc r t S junk σ i) = σ i
    rw [hL j c (by simp)]
    exact havoc_frame (L := r) hS fun j' c' h' => hL j' c' (by simp [h'])

theorem slotsIn_spec : ∀ {L : Slots} {S : List Nat}, slotsIn L S = true → ∀ j c, (j, c) ∈ L → memS j S = true
  | [], _, _, j, c, h => by cases h
  | (i, c0) :: l, S, h, j, c, hm => by
    simp only [slotsIn, Bool.and_eq_true] at h
    rcases List.mem_cons.1 hm with e | hm'
    · cases e; exact h.1
    · exact slotsIn_spec h.2 j c hm'

theorem havoc_Fr {c : Code} {L : Slots} {S : List Nat} (hp : planOk c (L, S) = true) (t : Tup L) (junk σ : St) : Fr (writes c) σ (havoc L t S junk σ) := fun i hi => by
  simp only [planOk, Bool.and_eq_true] at hp
  refine havoc_frame (memS_sub hp.1.2 hi) fun j c' hj => ?_
  cases hb : Nat.beq i j with
  | false => rfl
  | true =>
    have := Nat.eq_of_beq_eq_true hb; subst this
    rw [slotsIn_spec hp.2 _ _ hj] at hi; cases hi

/-- Where a piece has come to its end, the slots hold what they are told to hold. -/
theorem havoc_back {c : Code} {L : Slots} {S : List Nat} (hp : planOk c (L, S) = true) {a : Act} {σ σ' : St} (hag : Ag n a σ') (hf : Fr (writes c) σ σ') {X : Tup L → Prop} (h : withT L σ' X) :
    ∃ t, X t ∧ Ag n a (havoc L t S σ' σ) := by
  simp only [planOk, Bool.and_eq_true] at hp
  obtain ⟨t, h1, h2⟩ := withT_spec h
  exact ⟨t, h1, hag.congr fun i => (h2 S σ (fun i hi => hf i (memS_sub hp.1.1 hi)) i).symm⟩

theorem then_eq {next : Act → World → Prop} {Q : Exit → Act → World → Prop} {e : Exit} {a : Act} {w : World} (h : e ≠ .normal) (hq : Q e a w) : Exit.then next Q e a w := by cases e <;> first | exact absurd rfl h | exact hq

theorem jumpW_spec {L : Nat} {rec : LoopState → Option Code → Obj} {Q : Post} {σ : St} {ds : List Deferred} {w : World} : ∀ {l : List Nat}, jumpW L rec Q σ ds w l →
    (∃ st, st ≠ .busy ∧ w.heap[L]? = some (rec st none) ∧ Q .normal σ ds (w.putObj L (rec .exhausted none))) ∨
    (∃ st, st ≠ .busy ∧ w.heap[L]? = some (rec st (some .ret)) ∧ Q .ret σ ds (w.putObj L (rec .exhausted (some .ret)))) ∨
    (∃ i st, st ≠ .busy ∧ w.heap[L]? = some (rec st (some (.exit i))) ∧ Q (.exit i) σ ds (w.putObj L (rec .exhausted (some (.exit i)))))
  | [], h => h.elim .inl fun h => .inr (.inl h)
  | i :: l, h => h.elim (fun ⟨st, a, b, c⟩ => .inr (.inr ⟨i, st, a, b, c⟩)) jumpW_spec

theorem stepR_scope {P : Program} {b : Frame} {a : Act} {k : List Item} {cs : List Frame} {w : World} {c : Code} : step P (lone (b.atR a (.code (.scope c) :: k)) cs w) = .next (lone (b.atR a (.code c :: .inScope c :: k)) cs w) :=
  step_lone_go (by simp [stepG, stepG.exec, Frame.atR])
theorem stepR_inScope {P : Program} {b : Frame} {a : Act} {k : List Item} {cs : List Frame} {w : World} {c : Code} : step P (lone (b.atR a (.inScope c :: k)) cs w) = .next (lone (b.atR a k) cs w) :=
  step_lone_go (by simp [stepG, stepG.exec, Frame.atR])
theorem wpIn_scope {F : Fence} {m : Nat} {P : Program} {c : Code} {Q Q' : Exit → Act → World → Prop} {a : Act} {w : World} (hg : ∀ l a w, ¬ Q' (.goto l) a w) (hq : ∀ e a w, Q' e a w → Q e a w) (h : c.wpIn F m P Q' a w) : (Code.scope c).wpIn F m P Q a w := by
  intro b k cs hro hb hr
  have h0 : (lone (b.atR a (.code (.scope c) :: k)) cs w).fenced P F := fenced_calm hb hr rfl
  obtain ⟨e, a₁, w₁, h1, harr⟩ := h b (.inScope c :: k) cs hro hb hr
  cases e with
  | normal => exact ⟨.normal, a₁, w₁, hq _ _ _ h1, .head h0 stepR_scope (StepsIn.trans harr (.one (fenced_calm hb hr rfl) stepR_inScope))⟩
  | exit id =>
    have hx : exitTo id (.inScope c :: k) = exitTo id k := by simp [exitTo]
    exact ⟨_, a₁, w₁, hq _ _ _ h1, fun k' hk => .head h0 stepR_scope (harr.1 k' (by rw [hx]; exact hk)), fun hr' hk => let ⟨k₁, e1, e2⟩ := harr.2 hr' (by rw [hx]; exact hk); ⟨k₁, e1, .head h0 stepR_scope e2⟩⟩
  | goto l => exact (hg _ _ _ h1).elim
  | ret => exact ⟨_, a₁, w₁, hq _ _ _ h1, .of_steps (.one h0 stepR_scope) harr⟩
  | panic ch => exact ⟨_, a₁, w₁, hq _ _ _ h1, .of_steps (.one h0 stepR_scope) harr⟩
  | outgrown => exact ⟨_, a₁, w₁, hq _ _ _ h1, .of_steps (.one h0 stepR_scope) harr⟩

theorem allArgs_mk : ∀ {cs : List CK} {X : List Value → Prop}, (∀ xs, xs.length = cs.length → X xs) → allArgs cs X
  | [], _, h => h [] rfl
  | c :: cs, X, h => by
    have : ∀ x : CKT c, allArgs cs fun vs => X (toV c x :: vs) := fun x => allArgs_mk fun xs hx => h _ (by simp [hx])
    cases c <;> first | exact this | exact fun a n c => this (a, n, c)

theorem Ag.zipL : ∀ {ps : List Tmp} {xs : List Value} {t : Array Value} {σ : St} {ds : List Deferred}, Ag n { tmps := t, defers := ds } σ → allLt n ps = true →
    Ag n { tmps := (ps.zip xs).foldl (fun t (p : Tmp × Value) => t.setIfInBounds p.1 p.2) t, defers := ds } (updPs σ ps xs)
  | [], xs, t, σ, ds, h, _ => h
  | p :: ps, [], t, σ, ds, h, _ => h
  | p :: ps, x :: xs, t, σ, ds, h, hp => by
    simp only [allLt, Bool.and_eq_true] at hp
    have h1 := h.put (d := some p) (fun y hy => by cases hy; exact Nat.le_of_ble_eq_true hp.1) x
    exact Ag.zipL (ps := ps) (xs := xs) h1 hp.2
theorem Ag.zip {a : Act} {σ : St} (h : Ag n a σ) {ps : Array Tmp} {xs : List Value} (hp : allLt n ps.toList = true) :
    Ag n { tmps := (ps.zip (⟨xs⟩ : Array Value)).foldl (fun t (p, v) => t.setIfInBounds p v) a.tmps, defers := [] } (updPs σ ps.toList xs) := by
  have := Ag.zipL (xs := xs) (t := a.tmps) (ds := []) (show Ag n { tmps := a.tmps, defers := [] } σ from h) hp
  rw [← Array.foldl_toList, Array.toList_zip]
  exact this

theorem vc_sound (hT : TabOk P T) (hB : ∀ g, B g = true → ∀ args w, (callFunc g args).run P w = .ok (.enter g args) w) (hm : P.follows .mixedOrders = true) {pl : Plan} {k : Nat}
    {RF : Code → Post → St → List Deferred → World → Prop} (hRF : ∀ c Q σ ds w, RF c Q σ ds w → ∀ l a, Ag n a σ → a.defers = ds → c.wpIn (anyF l) k P (lift n (writes c) σ Q) a w) :
    ∀ (c : Code) (top : Bool), codeOk T n pl top c = true → ∀ (l : Option Nat), (top = true → l = none) → ∀ (Q : Post), NP Q → ∀ (σ : St) (ds : List Deferred) (w : World) (a : Act), vc P T B pl RF c top Q σ ds w → Ag n a σ → a.defers = ds → c.wpIn (anyF l) k P (lift n (writes c) σ Q) a w := by
  intro c
  induction c with
  | skip => intro top _ l htl Q hnp σ ds w a h hag hds; exact wpIn_skip ⟨σ, hag, Fr.refl _ _, by rw [hds]; exact h⟩
  | label i => intro top _ l htl Q hnp σ ds w a h hag hds; exact wpIn_label ⟨σ, hag, Fr.refl _ _, by rw [hds]; exact h⟩
  | region id ops draw => intro top hok l htl Q hnp σ ds w a h hag hds; exact region_sound hT hB hm hRF htl hok hnp h hag hds
  | exit id => intro top _ l htl Q hnp σ ds w a h hag hds; exact wpIn_exit ⟨σ, hag, Fr.refl _ _, by rw [hds]; exact h⟩
  | ret => intro top _ l htl Q hnp σ ds w a h hag hds; exact wpIn_ret ⟨σ, hag, Fr.refl _ _, by rw [hds]; exact h⟩
  | rangeFunc g ps x y ih1 ih2 =>
    intro top hok l htl Q hnp σ ds w a h hag hds
    cases top with
    | false => exact hRF _ _ _ _ _ h l a hag hds
    | true =>
      have := htl rfl; subst this
      simp only [codeOk, Bool.and_eq_true] at hok
      obtain ⟨⟨⟨hx, hy⟩, hps⟩, hlen⟩ := hok
      have hlen := Nat.eq_of_beq_eq_true hlen
      simp only [vc] at h
      obtain ⟨gf, first, caps, hg, h1⟩ := onFunc_spec h
      obtain ⟨hgf, h2⟩ := bW_spec h1
      refine wpIn_rangeFunc ?_
      intro fn _
      have hro : (anyF none).round = none := rfl
      rw [hro]
      let rc : LoopState → Option Code → Obj := fun st pe => .loop { state := st, pending := pe, fn, tmps := a.tmps, params := ps, assign := x, body := y, defers := w.heap.size }
      have rounds : ∀ R : Ending → World → Prop, allArgs (pl.rng (rid y)) fun xs => ∀ w', w'.heap[w.heap.size + 1]? = some (rc .ready none) →
          vc P T B pl RF x false (thenP (fun σ1 ds1 w1 => w1.heap[w.heap.size + 1]? = some (rc .ready none) ∧ vc P T B pl RF y false (roundP (w.heap.size + 1) rc R) σ1 ds1 (w1.putObj (w.heap.size + 1) (rc .busy none))) noP) (updPs σ ps.toList xs) [] w' →
          callV P B (.func (.yield (w.heap.size + 1)) #[] #[]) xs w' R := by
        refine fun R => allArgs_mk fun xs hxs w' hl hb => ?_
        refine ⟨fn, _, x, y, run_yield (args := ⟨xs⟩) hl (by simp [hxs, ← hlen]), ?_⟩
        have hag1 := hag.zip (xs := xs) hps
        refine round_any (l := none) (k := k) (roundIn_of_wpIn trivial ?_)
        refine wpIn_mono (ih1 false hx (some (w.heap.size + 1)) (by simp) _ NP.no.then _ [] w' _ hb hag1 rfl) ?_
        rintro e a1 w1 ⟨σ1, g1, g2, g3⟩
        cases e with
        | normal =>
          obtain ⟨g4, g5⟩ := g3
          refine ⟨_, run_beginRound g4 rfl, ?_⟩
          refine wpIn_mono (ih2 false hy (some (w.heap.size + 1)) (by simp) _ NP.round σ1 _ _ a1 g5 g1 rfl) ?_
          rintro e a2 w2 ⟨σ2, k1, k2, k3⟩
          cases e with
          | normal => exact ⟨_, _, run_endRound none k3.1, k3.2⟩
          | ret => exact ⟨_, _, run_endRound (some .ret) k3.1, k3.2⟩
          | exit id => exact ⟨_, _, run_endRound (some (.exit id)) k3.1, k3.2⟩
          | goto t => exact k3.elim
          | panic ch => exact k3.elim
          | outgrown => exact k3.elim
        | exit id => exact g3.elim
        | goto t => exact g3.elim
        | ret => exact g3.elim
        | panic ch => exact g3.elim
        | outgrown => exact g3.elim
      have h3 := h2 (.func (.yield (w.heap.size + 1)) #[] #[]) rc rounds
      refine ⟨w.heap.size + 1, [{ target := .collected w.heap.size, args := #[] }], _, { target := .fn (.func gf) ⟨caps⟩, args := (⟨first⟩ : Array Value) ++ #[.func (.yield (w.heap.size + 1)) #[] #[]] }, (w.alloc (.deferred (some []))).alloc (rc .ready none), gf, ⟨first ++ [.func (.yield (w.heap.size + 1)) #[] #[]] ++ caps⟩, (w.alloc (.deferred (some []))).alloc (rc .ready none), run_enterLoop_outer fn a.tmps ps x y, ?_, fun _ _ => trivial, ?_, fun h => by simp [anyF, Fence.wide] at h, ?_⟩
      · simp only [resolve]
        have : a.eval g = .func (.func gf) ⟨first⟩ ⟨caps⟩ := by rw [hag.eval]; exact hg
        rw [this, show Array.map a.eval #[Operand.const (Value.func (Fn.yield (w.heap.size + 1)) #[] #[])] = #[.func (.yield (w.heap.size + 1)) #[] #[]] from by simp [Act.eval]]
        rfl
      · simp only [invoke]
        rw [show (⟨first⟩ : Array Value) ++ #[.func (.yield (w.heap.size + 1)) #[] #[]] ++ (⟨caps⟩ : Array Value) = ⟨first ++ [.func (.yield (w.heap.size + 1)) #[] #[]] ++ caps⟩ by apply Array.toList_inj.1; simp]
        exact hB gf hgf _ _
      · refine callsIn_any (h3.mono ?_)
        rintro e w2 ⟨⟨v, rfl⟩, hj⟩
        have hag2 : Ag n { a with defers := [{ target := .collected w.heap.size, args := #[] }] ++ a.defers } σ := hag
        rcases jumpW_spec hj with ⟨st, hst, hh, hq⟩ | ⟨st, hst, hh, hq⟩ | ⟨i, st, hst, hh, hq⟩
        · exact ⟨none, _, run_endLoop hh hst, σ, hag2, Fr.refl _ _, by rw [← hds] at hq; exact hq⟩
        · exact ⟨some .ret, _, run_endLoop hh hst, wpIn_ret ⟨σ, hag2, Fr.refl _ _, by rw [← hds] at hq; exact hq⟩⟩
        · exact ⟨some (.exit i), _, run_endLoop hh hst, wpIn_exit ⟨σ, hag2, Fr.refl _ _, by rw [← hds] at hq; exact hq⟩⟩
  | scope c ih =>
    intro top hok l htl Q hnp σ ds w a h hag hds
    exact wpIn_scope (fun _ _ _ ⟨_, _, _, hq⟩ => hq) (fun e a' w' ⟨σ', h1, h2, h3⟩ => ⟨σ', h1, h2, by cases e <;> first | exact h3 | exact h3.elim⟩) (ih top hok l htl (scopeP Q) hnp.scope σ ds w a h hag hds)
  | goto t => intro top _ l htl Q hnp σ ds w a h hag hds; exact h.elim
  | refuse s => intro top _ l htl Q hnp σ ds w a h hag hds; exact h.elim
  | cond c x y ihx ihy =>
    intro top hok l htl Q hnp σ ds w a h hag hds
    simp only [codeOk, Bool.and_eq_true] at hok
    obtain ⟨b, hb, h1⟩ := onBool_spec h
    have he : a.eval c = .bool b := by rw [hag.eval]; exact hb
    have hk : ∀ i, known σ c b i = σ i := by
      intro i
      cases c with
      | tmp t => exact upd_known hb i
      | _ => rfl
    refine wpIn_cond he ?_
    cases b with
    | true =>
      refine wpIn_mono (ihx top hok.1 l htl Q hnp _ ds w a h1 (hag.congr fun i => (hk i).symm) hds) ?_
      rintro e a' w' ⟨σ', g1, g2, g3⟩
      exact ⟨σ', g1, Fr.left fun i hi => (g2 i hi).trans (hk i), g3⟩
    | false =>
      refine wpIn_mono (ihy top hok.2 l htl Q hnp _ ds w a h1 (hag.congr fun i => (hk i).symm) hds) ?_
      rintro e a' w' ⟨σ', g1, g2, g3⟩
      exact ⟨σ', g1, Fr.right fun i hi => (g2 i hi).trans (hk i), g3⟩
  | block id c ih =>
    intro top hok l htl Q hnp σ ds w a h hag hds
    refine wpIn_block (wpIn_mono (ih top hok l htl (blockP id Q) hnp.block σ ds w a h hag hds) ?_)
    rintro e a' w' ⟨σ', g1, g2, g3⟩
    cases e with
    | exit id' =>
      simp only [Exit.inBlock]
      simp only [blockP] at g3
      by_cases hid : id' = id
      · subst hid
        have : Nat.beq id' id' = true := by simp
        rw [this] at g3
        rw [if_pos rfl]
        exact ⟨σ', g1, g2, g3⟩
      · have : Nat.beq id' id = false := by
          cases hb : Nat.beq id' id with
          | false => rfl
          | true => exact absurd (Nat.eq_of_beq_eq_true hb) hid
        rw [this] at g3
        rw [if_neg hid]
        exact ⟨σ', g1, g2, g3⟩
    | _ => exact ⟨σ', g1, g2, g3⟩
  | seq x y ihx ihy =>
    intro top hok l htl Q hnp σ ds w a h hag hds
    simp only [codeOk, Bool.and_eq_true] at hok
    obtain ⟨⟨hx, hy⟩, hc⟩ := hok
    simp only [vc] at h
    cases hcut : pl.cuts (rid y) with
    | none =>
      rw [hcut] at h
      refine wpIn_seq (wpIn_mono (ihx top hx l htl _ hnp.then σ ds w a h hag hds) ?_)
      rintro e a' w' ⟨σ', g1, g2, g3⟩
      cases e with
      | normal =>
        refine wpIn_mono (ihy top hy l htl Q hnp σ' _ w' a' g3 g1 rfl) ?_
        rintro e2 a2 w2 ⟨σ2, k1, k2, k3⟩
        exact ⟨σ2, k1, g2.trans k2, k3⟩
      | _ => exact ⟨σ', g1, Fr.left g2, g3⟩
    | some p =>
      obtain ⟨L, S⟩ := p
      rw [hcut] at h hc
      obtain ⟨J, h1, h2⟩ := h
      refine wpIn_seq (wpIn_mono (ihx top hx l htl _ hnp.then σ ds w a h1 hag hds) ?_)
      rintro e a' w' ⟨σ', g1, g2, g3⟩
      cases e with
      | normal =>
        obtain ⟨g4, g5⟩ := dsW_spec g3
        obtain ⟨t, hJ, hag2⟩ := havoc_back hc g1 g2 g5
        refine wpIn_mono (ihy top hy l htl Q hnp _ ds w' a' (allT_spec (h2 σ') t w' hJ) hag2 g4) ?_
        rintro e2 a2 w2 ⟨σ2, k1, k2, k3⟩
        exact ⟨σ2, k1, (havoc_Fr hc t σ' σ).trans k2, k3⟩
      | _ => exact ⟨σ', g1, Fr.left g2, g3⟩
  | loop c ih =>
    intro top hok l htl Q hnp σ ds w a h hag hds
    simp only [codeOk, Bool.and_eq_true] at hok
    obtain ⟨hc, hp⟩ := hok
    simp only [vc] at h
    obtain ⟨I, μ, h0, h1⟩ := h
    have hp : planOk c ((pl.loops (lid c)).1, (pl.loops (lid c)).2) = true := hp
    obtain ⟨t0, hI0, hag0⟩ := havoc_back (σ := σ) hp hag (Fr.refl _ _) h0
    refine wpIn_loop (fun a w => ∃ m, ∃ t junk, I t w ∧ μ t w = m ∧ Ag n a (havoc (pl.loops (lid c)).1 t (pl.loops (lid c)).2 junk σ) ∧ a.defers = ds)
      (fun a w => leastOf fun m => ∃ t junk, I t w ∧ μ t w = m ∧ Ag n a (havoc (pl.loops (lid c)).1 t (pl.loops (lid c)).2 junk σ) ∧ a.defers = ds) ⟨_, t0, σ, hI0, rfl, hag0, hds⟩ ?_
    intro a1 w1 hI
    obtain ⟨hl, _⟩ := leastOf_spec hI
    obtain ⟨t, junk, hIt, hμ, hag1, hds1⟩ := hl
    refine wpIn_mono (ih top hc l htl _ hnp.then _ ds w1 a1 (allT_spec (h1 junk) t w1 hIt) hag1 hds1) ?_
    rintro e a' w' ⟨σ', g1, g2, g3⟩
    have hfr : Fr (writes c) σ σ' := fun i hi => (g2 i hi).trans (havoc_Fr hp t junk σ i hi)
    cases e with
    | normal =>
      obtain ⟨g4, g5⟩ := dsW_spec g3
      obtain ⟨t', ⟨hI', hμ'⟩, hag'⟩ := havoc_back (σ := σ) hp g1 hfr g5
      have hex : ∃ m, ∃ t junk, I t w' ∧ μ t w' = m ∧ Ag n a' (havoc (pl.loops (lid c)).1 t (pl.loops (lid c)).2 junk σ) ∧ a'.defers = ds := ⟨_, t', σ', hI', rfl, hag', g4⟩
      exact show (∃ m, ∃ t junk, I t w' ∧ μ t w' = m ∧ Ag n a' (havoc (pl.loops (lid c)).1 t (pl.loops (lid c)).2 junk σ) ∧ a'.defers = ds) ∧ _ < _ from
        ⟨hex, Nat.lt_of_le_of_lt ((leastOf_spec hex).2 _ ⟨t', σ', hI', rfl, hag', g4⟩) (by rw [← hμ]; exact hμ')⟩
    | _ => exact ⟨σ', g1, hfr, g3⟩

/-! ### A function -/
/-- The results, read where the function ends. -/
def resW (T : TypeId → Option TI) : List ResultVar → List Value → St → World → (List Value → Prop) → Prop
  | [], acc, _, _, K => K acc
  | .tmp t :: r, acc, σ, w, K => resW T r (acc ++ [σ t]) σ w K
  | .cell a t :: r, acc, σ, w, K => onPtr (σ a) fun p => ptrW p fun ad => tyW T t fun i => loadW i.sh ad w fun v => resW T r (acc ++ [v]) σ w K
def one (l : List Value) : Value := match l with | [v] => v | l => .tuple ⟨l⟩

/-- A function, called at the end of another one. -/
def DCalls (P : Program) (f : FuncId) (args : Array Value) (w : World) (R : Ending → World → Prop) : Prop := CallsDIn (anyF none) 999 P f args .returning w fun e u w' => u = .returning ∧ R e w'

/-- The marks that ranges over functions have left among the deferred calls are taken up. -/
def marksW (P : Program) (B : FuncId → Bool) : List Deferred → World → (World → Prop) → Prop
  | [], w, K => K w
  | d :: ds, w, K => match d.target with
    | .collected D => w.heap[D]? = some (.deferred (some [])) ∧ marksW P B ds (w.putObj D (.deferred none)) K
    | .fn (.func g) ⟨caps⟩ => bW (B g) (DCalls P g ⟨d.args.toList ++ caps⟩ w fun e w' => (∃ v, e = .returned v) ∧ marksW P B ds w' K)
    | _ => False

def retP (P : Program) (B : FuncId → Bool) (T : TypeId → Option TI) (rs : List ResultVar) (R : Ending → World → Prop) : Post
  | .normal, σ, ds, w => marksW P B ds w fun w' => resW T rs [] σ w' fun l => R (.returned (one l)) w'
  | .ret, σ, ds, w => marksW P B ds w fun w' => resW T rs [] σ w' fun l => R (.returned (one l)) w'
  | _, _, _, _ => False

def initS (args : List Value) : St := fun i => lget args i
where lget : List Value → Nat → Value
  | [], _ => undef
  | v :: _, 0 => v
  | _ :: l, i + 1 => lget l i

/-- A FUNCTION's CONDITION. -/
def vcFun (P : Program) (T : TypeId → Option TI) (B : FuncId → Bool) (pl : Plan) (RF : Code → Post → St → List Deferred → World → Prop) (rs : List ResultVar) (c : Code) (args : List Value) (R : Ending → World → Prop) (w : World) : Prop :=
  vc P T B pl RF c true (retP P B T rs R) (initS args) [] w

theorem lget_get : ∀ (l : List Value) (i : Nat), initS.lget l i = (l[i]?).getD undef
  | [], i => by simp [initS.lget]
  | v :: _, 0 => rfl
  | _ :: l, i + 1 => by simpa [initS.lget] using lget_get l i

theorem resW_run (hT : TabOk P T) {σ : St} {a : Act} {w : World} (hag : Ag n a σ) : ∀ {rs : List ResultVar} {acc : List Value} {K : List Value → Prop}, resW T rs acc σ w K →
    ∃ l, K (acc ++ l) ∧ (rs.mapM fun | .tmp t => pure (a.tmps.getD t undef) | .cell x t => do loadVar t (← asAddr (a.tmps.getD x undef)) : Sem (List Value)).run P w = .ok l w
  | [], acc, K, h => ⟨[], by simpa [resW] using h, rfl⟩
  | .tmp t :: r, acc, K, h => by
    obtain ⟨l, h1, h2⟩ := resW_run hT hag (rs := r) h
    refine ⟨σ t :: l, by simpa using h1, ?_⟩
    rw [List.mapM_cons, Sem.run_bind]
    simp only [Sem.run_pure, Result.andThen]
    rw [Sem.run_bind, h2, hag.2 t]; rfl
  | .cell x t :: r, acc, K, h => by
    obtain ⟨p, hp, h1⟩ := onPtr_spec h
    obtain ⟨ad, rfl, h2⟩ := ptrW_spec h1
    obtain ⟨i, hi, h3⟩ := tyW_spec h2
    obtain ⟨v, h4, hv⟩ := loadW_run hT hi h3
    obtain ⟨l, h5, h6⟩ := resW_run hT hag (rs := r) h4
    refine ⟨v :: l, by simpa using h5, ?_⟩
    rw [List.mapM_cons, Sem.run_bind]
    have hl : (do loadVar t (← asAddr (a.tmps.getD x undef)) : Sem Value).run P w = .ok v w := by
      rw [hag.2 x, hp, Sem.run_bind]; simp only [asAddr, Sem.run_pure, Result.andThen]; exact hv w rfl
    refine (congrArg (fun z => Result.andThen z _) hl).trans ?_
    simp only [Result.andThen]
    rw [Sem.run_bind, h6]; rfl

theorem results_run (hT : TabOk P T) {fn : Func} {σ : St} {a : Act} {w : World} (hag : Ag n a σ) {K : List Value → Prop} (h : resW T fn.results.toList [] σ w K) :
    ∃ l, K l ∧ (results fn a.tmps).run P w = .ok (one l) w := by
  obtain ⟨l, h1, h2⟩ := resW_run hT hag h
  refine ⟨l, by simpa using h1, ?_⟩
  unfold results
  rw [Sem.run_bind, Array.mapM_eq_mapM_toList]
  have : (List.toArray <$> (fn.results.toList.mapM fun | .tmp t => pure (a.tmps.getD t undef) | .cell x t => do loadVar t (← asAddr (a.tmps.getD x undef)) : Sem (List Value))).run P w = .ok l.toArray w := by
    rw [Sem.run_map, h2]; rfl
  refine (congrArg (fun z => Result.andThen z _) this).trans ?_
  simp only [Result.andThen]
  rcases l with _ | ⟨v, _ | ⟨u, l⟩⟩
  · rfl
  · rfl
  · simp [one]

theorem marks_run (hT : TabOk P T) (hB : ∀ g, B g = true → ∀ args w, (callFunc g args).run P w = .ok (.enter g args) w) {fn : Func} {σ : St} {a : Act} (hag : Ag n a σ) {R : Ending → World → Prop} : ∀ {ds : List Deferred} {w : World}, marksW P B ds w (fun w' => resW T fn.results.toList [] σ w' fun l => R (.returned (one l)) w') → LeavesInM (anyF none) 1000 P fn a.tmps R ds .returning w
  | [], w, h => by
    obtain ⟨l, h1, h2⟩ := results_run hT hag h
    exact ⟨_, h2, h1⟩
  | d :: ds, w, h => by
    unfold marksW at h
    split at h
    · rename_i D hD
      exact ⟨by simp, .inl ⟨D, _, hD, run_takeDeferred h.1, marks_run hT hB hag h.2⟩⟩
    · rename_i g caps hd
      obtain ⟨hg, h1⟩ := bW_spec h
      refine ⟨by simp, .inr ⟨fun _ => by omega, _, _, g, ⟨d.args.toList ++ caps⟩, hd, ?_, fun _ _ => trivial, CallsDIn.mono h1 ?_⟩⟩
      · rw [hd]
        simp only [invoke]
        rw [show d.args ++ (⟨caps⟩ : Array Value) = ⟨d.args.toList ++ caps⟩ by apply Array.toList_inj.1; simp]
        exact hB g hg _ w
      · rintro e u w' ⟨rfl, ⟨v, rfl⟩, h2⟩
        exact marks_run hT hB hag h2
    · exact h.elim

/-- A FUNCTION RUNS AS ITS CONDITION SAYS. -/
theorem calls_of_vc (hT : TabOk P T) (hB : ∀ g, B g = true → ∀ args w, (callFunc g args).run P w = .ok (.enter g args) w) (hm : P.follows .mixedOrders = true) {f : FuncId} {fn : Func} {c : Code} {args : List Value} {pl : Plan} {w : World} {R : Ending → World → Prop}
    (hf : P.funcs[f]? = some fn) (hb : fn.body = some c) (hn : args.length ≤ fn.ntmps) (hok : codeOk T fn.ntmps pl true c = true)
    (h : vcFun P T B pl (fun c Q σ ds w => ∀ l a, Ag fn.ntmps a σ → a.defers = ds → c.wpIn (anyF l) 1000 P (lift fn.ntmps (writes c) σ Q) a w) fn.results.toList c args R w) : Calls P f ⟨args⟩ w R := by
  refine callsIn_wide (n := 1000) |>.1 (callsIn_of_wp_marks hf hb trivial ?_)
  have hag : Ag fn.ntmps { tmps := (⟨args⟩ : Array Value) ++ Array.replicate (fn.ntmps - (⟨args⟩ : Array Value).size) undef, defers := [] } (initS args) := by
    refine ⟨by simp; omega, fun i => ?_⟩
    show _ = initS.lget args i
    rw [lget_get]
    by_cases hi : i < args.length
    · simp [hi]
      rw [Array.getElem?_append_left (by simpa using hi)]
      simp [hi]
    · simp
      rw [Array.getElem?_append_right (by simpa using Nat.le_of_not_lt hi)]
      rw [List.getElem?_eq_none (by omega)]
      simp
      cases h2 : (Array.replicate (fn.ntmps - args.length) undef)[i - args.length]? with
      | none => rfl
      | some v =>
        obtain ⟨h3, h4⟩ := Array.getElem?_eq_some_iff.1 h2
        simp at h4
        simp [h4]
  refine wpIn_mono (vc_sound (k := 1000) hT hB hm (fun c Q σ ds w h => h) c true hok none (fun _ => rfl) _ (fun _ _ _ _ h => h) _ _ w _ h hag rfl) ?_
  rintro e a' w' ⟨σ', g1, _, g3⟩
  cases e with
  | normal => exact marks_run hT hB g1 g3
  | ret => exact marks_run hT hB g1 g3
  | exit id => exact g3.elim
  | goto t => exact g3.elim
  | panic ch => exact g3.elim
  | outgrown => exact g3.elim

/-- .. called at the end of another one. -/
def retD (T : TypeId → Option TI) (rs : List ResultVar) (R : Ending → World → Prop) : Post
  | .normal, σ, [], w => resW T rs [] σ w fun l => R (.returned (one l)) w
  | .ret, σ, [], w => resW T rs [] σ w fun l => R (.returned (one l)) w
  | _, _, _, _ => False
def vcFunD (P : Program) (T : TypeId → Option TI) (B : FuncId → Bool) (pl : Plan) (RF : Code → Post → St → List Deferred → World → Prop) (rs : List ResultVar) (c : Code) (args : List Value) (R : Ending → World → Prop) (w : World) : Prop :=
  vc P T B pl RF c true (retD T rs R) (initS args) [] w

theorem initS_ag {args : List Value} {m : Nat} (hn : args.length ≤ m) : Ag m { tmps := (⟨args⟩ : Array Value) ++ Array.replicate (m - (⟨args⟩ : Array Value).size) undef, defers := [] } (initS args) := by
  refine ⟨by simp; omega, fun i => ?_⟩
  show _ = initS.lget args i
  rw [lget_get]
  by_cases hi : i < args.length
  · simp [hi]
    rw [Array.getElem?_append_left (by simpa using hi)]
    simp [hi]
  · simp
    rw [Array.getElem?_append_right (by simpa using Nat.le_of_not_lt hi)]
    rw [List.getElem?_eq_none (by omega)]
    simp
    cases h2 : (Array.replicate (m - args.length) undef)[i - args.length]? with
    | none => rfl
    | some v =>
      obtain ⟨h3, h4⟩ := Array.getElem?_eq_some_iff.1 h2
      simp at h4
      simp [h4]

theorem dcalls_of_vc (hT : TabOk P T) (hB : ∀ g, B g = true → ∀ args w, (callFunc g args).run P w = .ok (.enter g args) w) (hm : P.follows .mixedOrders = true) {f : FuncId} {fn : Func} {c : Code} {args : List Value} {pl : Plan} {w : World} {R : Ending → World → Prop}
    (hf : P.funcs[f]? = some fn) (hb : fn.body = some c) (hn : args.length ≤ fn.ntmps) (hok : codeOk T fn.ntmps pl true c = true)
    (h : vcFunD P T B pl (fun c Q σ ds w => ∀ l a, Ag fn.ntmps a σ → a.defers = ds → c.wpIn (anyF l) 999 P (lift fn.ntmps (writes c) σ Q) a w) fn.results.toList c args R w) : DCalls P f ⟨args⟩ w R := by
  refine callsDIn_of_wp hf hb trivial ?_
  refine wpIn_mono (vc_sound (k := 999) hT hB hm (fun c Q σ ds w h => h) c true hok none (fun _ => rfl) _ (fun _ _ _ _ h => h) _ _ w _ h (initS_ag hn) rfl) ?_
  rintro e a' w' ⟨σ', g1, _, g3⟩
  have fin : ∀ {ds : List Deferred}, a'.defers = ds → ((e = .normal ∨ e = .ret) → retD T fn.results.toList R e σ' ds w' → ds = [] ∧ ∃ v, (results fn a'.tmps).run P w' = .ok v w' ∧ R (.returned v) w') := by
    intro ds _ he hr
    cases ds with
    | cons d ds => rcases he with rfl | rfl <;> exact hr.elim
    | nil =>
      have h' : resW T fn.results.toList [] σ' w' fun l => R (.returned (one l)) w' := by rcases he with rfl | rfl <;> exact hr
      obtain ⟨l, h1, h2⟩ := results_run hT g1 h'
      exact ⟨rfl, _, h2, h1⟩
  cases e with
  | normal => exact fin rfl (.inl rfl) g3
  | ret => exact fin rfl (.inr rfl) g3
  | exit id => exact g3.elim
  | goto t => exact g3.elim
  | panic ch => exact g3.elim
  | outgrown => exact g3.elim

end
end Go.Proofs.YtgepmlgkeljelaaGreat.Vc
