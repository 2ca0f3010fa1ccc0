/- The conditions are enough: regions that draw, by stages. -/
import Derived.Test.YtgepmlgkeljelaaGreatVcU
namespace Go.Proofs.YtgepmlgkeljelaaGreat.Vc
open Go
section
variable {n : Nat} {P : Program} {T : TypeId → Option TI} {B : FuncId → Bool}

/-- The frame's slots are σ's, but for those of what is still to come. -/
def AgE (n : Nat) (ops : Array Oper) (E : List Nat) (a : Act) (σ : St) : Prop :=
  a.tmps.size = n ∧ ∀ d, (∀ e ∈ E, ∀ o, ops[e]? = some o → dstIs o d = false) → a.tmps.getD d undef = σ d
def wantedS (ops : List Oper) (o : Oper) (σ : St) : Bool :=
  match o.guard with
  | none => true
  | some (j, want) => match nthO ops j with
    | none => false
    | some p => match p.dst with
      | none => false
      | some d => match σ d with | .bool b => b == want | _ => false

theorem guardW_S {ops : List Oper} {o : Oper} {σ : St} {X Y : St → Prop} (h : guardW ops o.guard σ X Y) : (wantedS ops o σ = true ∧ X σ) ∨ (wantedS ops o σ = false ∧ Y σ) := by
  unfold guardW at h
  unfold wantedS
  cases hg : o.guard with
  | none => rw [hg] at h; exact .inl ⟨rfl, h⟩
  | some p =>
    obtain ⟨j, want⟩ := p
    rw [hg] at h
    simp only at h ⊢
    cases hn : nthO ops j with
    | none => rw [hn] at h; exact .inr ⟨rfl, h⟩
    | some q =>
      rw [hn] at h
      simp only at h ⊢
      cases hd : q.dst with
      | none => rw [hd] at h; exact .inr ⟨rfl, h⟩
      | some d =>
        rw [hd] at h
        simp only at h ⊢
        cases hs : σ d <;> rw [hs] at h <;> simp only at h ⊢ <;> first | exact .inr ⟨rfl, h⟩ | exact .inr ⟨trivial, h⟩ | skip
        rename_i b
        have e : ∀ b', σ d = .bool b' → upd σ d (.bool b') = σ := fun b' hb => funext (upd_known hb)
        cases b <;> cases want <;> simp only [bcase] at h
        · rw [e _ hs] at h; exact .inl ⟨rfl, h⟩
        · rw [e _ hs] at h; exact .inr ⟨rfl, h⟩
        · rw [e _ hs] at h; exact .inr ⟨rfl, h⟩
        · rw [e _ hs] at h; exact .inl ⟨rfl, h⟩

theorem memS_iff {i : Nat} : ∀ {l : List Nat}, memS i l = true ↔ i ∈ l
  | [] => by simp [memS]
  | j :: l => by
    simp only [memS, List.mem_cons]
    cases hb : Nat.beq i j with
    | true => have := Nat.eq_of_beq_eq_true hb; simp [this]
    | false =>
      have hne : i ≠ j := fun e => by subst e; simp at hb
      simp [hne, memS_iff (l := l)]

theorem wantedS_congr {ops : List Oper} {o : Oper} {σ σ' : St} (h : ∀ d ∈ looks ops o, σ' d = σ d) : wantedS ops o σ' = wantedS ops o σ := by
  unfold wantedS
  cases hg : o.guard with
  | none => rfl
  | some p =>
    obtain ⟨j, want⟩ := p
    simp only
    cases hn : nthO ops j with
    | none => rfl
    | some q =>
      simp only
      cases hd : q.dst with
      | none => rfl
      | some d =>
        simp only
        rw [h d (by unfold looks; rw [hg]; simp [hn, hd])]
theorem looks_op {ops : List Oper} {o : Oper} {t : Nat} (h : Operand.tmp t ∈ o.op.operands) : t ∈ looks ops o := by
  unfold looks
  exact List.mem_append_left _ (List.mem_filterMap.2 ⟨.tmp t, by simpa using h, rfl⟩)
theorem exec_congr {ops : List Oper} {o : Oper} {ρ : Operand → Value} {σ : St} (hs : ∀ cs b, o.op ≠ .select cs b) (hc : ∀ x, (∀ t, x ≠ .tmp t) → ρ x = ev σ x) (h : ∀ d ∈ looks ops o, ρ (.tmp d) = σ d) : execOp ρ o = execOp (ev σ) o :=
  execOp_congr o hs fun x hx => by
    cases x with
    | tmp t => exact h t (looks_op hx)
    | const v => exact hc _ (by simp)
    | global g => exact hc _ (by simp)
    | func f => exact hc _ (by simp)
theorem eval_const {a : Act} {σ : St} {x : Operand} (h : ∀ t, x ≠ .tmp t) : a.eval x = ev σ x := by
  cases x with
  | tmp t => exact absurd rfl (h t)
  | const v => rfl
  | global g => rfl
  | func f => rfl
theorem ev_const {σ σ' : St} {x : Operand} (h : ∀ t, x ≠ .tmp t) : ev σ x = ev σ' x := by
  cases x with
  | tmp t => exact absurd rfl (h t)
  | const v => rfl
  | global g => rfl
  | func f => rfl

/-- A pending operation yields what σ has. -/
def YE (P : Program) (T : TypeId → Option TI) (ops : Array Oper) (e : Nat) (σ : St) (w : World) : Prop :=
  ∀ o, ops[e]? = some o → (wantedS ops.toList o σ = true → ∃ v, (∀ u : World, stillOp T o = true ∨ u.heap = w.heap → (execOp (ev σ) o).run P u = .ok (.value v) u) ∧ ∀ d, o.dst = some d → σ d = v) ∧
    (wantedS ops.toList o σ = false → ∀ d, o.dst = some d → σ d = undef)

theorem vcOpR_run (hT : TabOk P T) {o : Oper} {ρ : Operand → Value} {w : World} {K : Value → Prop} (h : vcOpR P T o ρ w K) : ∃ v, K v ∧ ∀ u : World, stillOp T o = true ∨ u.heap = w.heap → (execOp ρ o).run P u = .ok (.value v) u := by
  by_cases hb : ∃ t parts, o.op = .build t parts
  · obtain ⟨t, parts, hb⟩ := hb
    unfold vcOpR at h
    rw [hb] at h
    obtain ⟨v, hK, hr⟩ := buildW_run hT h
    refine ⟨v, hK, fun u _ => ?_⟩
    obtain ⟨dst, op, type, pos, after, guard⟩ := o
    simp only at hb
    subst hb
    show (do pure (.value (← Instr.build t (parts.map fun (p : Nat × Operand) => (p.1, ρ p.2)))) : Sem Next).run P u = _
    rw [show (parts.map fun (p : Nat × Operand) => (p.1, ρ p.2)) = ⟨parts.toList.map fun p => (p.1, ρ p.2)⟩ from arr_map _ _, Sem.run_bind, hr u]; rfl
  · have h' : vcQ P T o ρ w K := by
      unfold vcOpR at h
      split at h
      · rename_i t parts he; exact absurd ⟨t, parts, he⟩ hb
      · exact h
    by_cases hp : pureOp T o.op = true
    · obtain ⟨v, hK, hr⟩ := vcQ_pure hT hp h'
      exact ⟨v, hK, fun u _ => hr u⟩
    · obtain ⟨v, hK, hy⟩ := vcQ_run hT h'
      refine ⟨v, hK, fun u hu => ?_⟩
      rcases hu with hu | hu
      · exfalso
        unfold stillOp at hu
        simp only [Bool.or_eq_true] at hu
        rcases hu with hu | hu
        · exact hp hu
        · split at hu
          · rename_i t parts he; exact hb ⟨t, parts, he⟩
          · cases hu
      · exact hy u hu

def unl (L : Array Bool) (N : Nat) : Nat := (List.range N).countP fun i => !L.getD i true
theorem countP_lt' {p q : Nat → Bool} {i : Nat} : ∀ {l : List Nat}, i ∈ l → (∀ j, q j = true → p j = true) → p i = true → q i = false → l.countP q < l.countP p
  | x :: l, hi, hle, hp, hq => by
    have hl : l.countP q ≤ l.countP p := List.countP_mono_left fun j _ h => hle j h
    rcases List.mem_cons.1 hi with rfl | hi
    · rw [List.countP_cons, List.countP_cons, hp, hq]
      simp; omega
    · have ih := countP_lt' hi hle hp hq
      rw [List.countP_cons, List.countP_cons]
      cases hqx : q x with
      | true => rw [hle x hqx]; simp; exact ih
      | false => cases p x <;> simp <;> omega
theorem unl_lt {L : Array Bool} {N i : Nat} (hz : L.size = N) (hi : i < N) (h : L.getD i true = false) : unl (L.setIfInBounds i true) N < unl L N := by
  refine countP_lt' (i := i) (List.mem_range.2 hi) (fun j hj => ?_) (by rw [h]; rfl) (by simp [hz, hi])
  by_cases hij : i = j
  · subst hij; simp [hz, hi] at hj
  · rw [getD_set_ne true hij] at hj; exact hj

section
variable {ops : Array Oper} {anc : List Nat}
/-- What the looks ahead tell. -/
structure StgOk (T : TypeId → Option TI) (ops : Array Oper) (anc : List Nat) : Prop where
  edge : ∀ (i : Nat) (o : Oper), ops[i]? = some o → ∀ e ∈ o.after, Region.binds .any e = true → e.on < i
  ancs : ∀ (i : Nat) (o : Oper), ops[i]? = some o → nthN anc i = ancM anc o.after.toList
  guard : ∀ (i : Nat) (o : Oper), ops[i]? = some o → ∀ g b, o.guard = some (g, b) → inM g (depsM o.after.toList) = true
  slot : ∀ (i : Nat) (o : Oper), ops[i]? = some o → kindQ T o = true → ∀ d, o.dst = some d → d ∉ looks ops.toList o
  pair : ∀ (i : Nat) (oi : Oper) (j : Nat) (oj : Oper), ops[i]? = some oi → ops[j]? = some oj → i ≠ j → ∀ d, oi.dst = some d → dstIs oj d = false ∧ (inM i (nthN anc j) = true ∨ kindQ T oi = false ∨ d ∉ looks ops.toList oj) ∧
    (inM i (nthN anc j) = true ∨ kindQ T oj = false ∨ d ∉ looks ops.toList oj ∨ (kindQ T oi = false ∧ inM j (nthN anc i) = true))

theorem edgesB_spec {anc : List Nat} : ∀ {l : List Oper} {k : Nat}, edgesB anc k l = true → ∀ i o, l[i]? = some o → (∀ e ∈ o.after, Region.binds .any e = true → e.on < k + i) ∧ nthN anc (k + i) = ancM anc o.after.toList
  | [], _, _, _, _, h => by cases h
  | x :: l, k, h, i, o, ho => by
    have h : (x.after.toList.all (fun e => !Region.binds .any e || Nat.blt e.on k) && Nat.beq (nthN anc k) (ancM anc x.after.toList) && edgesB anc (k + 1) l) = true := h
    rw [Bool.and_eq_true, Bool.and_eq_true] at h
    cases i with
    | zero =>
      have : x = o := by simpa using ho
      subst this
      refine ⟨fun e he hb => ?_, Nat.eq_of_beq_eq_true h.1.2⟩
      have := List.all_eq_true.1 h.1.1 e (by simpa using he)
      rw [hb] at this
      exact Nat.le_of_ble_eq_true this
    | succ i =>
      have := edgesB_spec h.2 i o (by simpa using ho)
      rwa [show k + 1 + i = k + (i + 1) by omega] at this
theorem guardsB_spec {l : List Oper} (h : guardsB l = true) {o : Oper} (ho : o ∈ l) {g : Nat} {b : Bool} (hg : o.guard = some (g, b)) : inM g (depsM o.after.toList) = true := by
  induction l with
  | nil => cases ho
  | cons x l ih =>
    have h : ((match x.guard with | some (g, _) => inM g (depsM x.after.toList) | none => true) && guardsB l) = true := h
    rw [Bool.and_eq_true] at h
    rcases List.mem_cons.1 ho with he | ho
    · have h1 := h.1
      rw [← he, hg] at h1
      exact h1
    · exact ih h.2 ho
theorem pairsB_spec {ops : List Oper} {anc : List Nat} {i : Nat} {oi : Oper} : ∀ {l : List Oper} {k : Nat}, pairsB T ops anc i oi k l = true → ∀ j oj, l[j]? = some oj → pairB T ops anc i oi (k + j) oj = true
  | [], _, _, _, _, h => by cases h
  | x :: l, k, h, j, o, ho => by
    have h : (pairB T ops anc i oi k x && pairsB T ops anc i oi (k + 1) l) = true := h
    rw [Bool.and_eq_true] at h
    cases j with
    | zero =>
      have : x = o := by simpa using ho
      rw [← this]; exact h.1
    | succ j =>
      have := pairsB_spec h.2 j o (by simpa using ho)
      rwa [show k + 1 + j = k + (j + 1) by omega] at this
theorem slotsB_spec {ops : List Oper} {anc : List Nat} : ∀ {l : List Oper} {k : Nat}, slotsB T ops anc k l = true → ∀ i oi, l[i]? = some oi → (∀ d, oi.dst = some d → (kindQ T oi && memS d (looks ops oi)) = false) ∧ pairsB T ops anc (k + i) oi 0 ops = true
  | [], _, _, _, _, h => by cases h
  | x :: l, k, h, i, o, ho => by
    have h : ((match x.dst with | some d => !(kindQ T x && memS d (looks ops x)) | none => true) && pairsB T ops anc k x 0 ops && slotsB T ops anc (k + 1) l) = true := h
    rw [Bool.and_eq_true, Bool.and_eq_true] at h
    cases i with
    | zero =>
      have : x = o := by simpa using ho
      subst this
      refine ⟨fun d hd => ?_, h.1.2⟩
      have := h.1.1; rw [hd] at this; simpa only [Bool.not_eq_true'] using this
    | succ i =>
      have := slotsB_spec h.2 i o (by simpa using ho)
      rwa [show k + 1 + i = k + (i + 1) by omega] at this
theorem stgOk_of {s : Stg × List Nat} (h : stgB T ops.toList s = true) : StgOk T ops s.2 := by
  simp only [stgB, Bool.and_eq_true] at h
  obtain ⟨⟨⟨h1, h2⟩, h3⟩, _⟩ := h
  have get : ∀ {i o}, ops[i]? = some o → ops.toList[i]? = some o := fun h => by rw [Array.getElem?_toList]; exact h
  refine ⟨fun i o ho e he hb => by simpa using (edgesB_spec h1 i o (get ho)).1 e he hb, fun i o ho => by simpa using (edgesB_spec h1 i o (get ho)).2, fun i o ho g b hg => guardsB_spec h2 (List.mem_of_getElem? (get ho)) hg, fun i o ho hq d hd hm => ?_, fun i oi j oj hi hj hij d hd => ?_⟩
  · have := (slotsB_spec h3 i o (get ho)).1 d hd
    rw [hq, memS_iff.2 hm] at this; cases this
  · have hp := pairsB_spec (slotsB_spec h3 i oi (get hi)).2 j oj (get hj)
    rw [Nat.zero_add, Nat.zero_add] at hp
    unfold pairB at hp
    have hb : Nat.beq i j = false := by
      cases hb : Nat.beq i j with
      | false => rfl
      | true => exact absurd (Nat.eq_of_beq_eq_true hb) hij
    rw [hb, hd] at hp
    simp only [Bool.false_or, Bool.and_eq_true, Bool.or_eq_true, Bool.not_eq_true'] at hp
    obtain ⟨⟨h4, h5⟩, h6⟩ := hp
    refine ⟨h4, ?_, ?_⟩
    · rcases h5 with (h5 | h5) | h5
      · exact .inl h5
      · exact .inr (.inl h5)
      · exact .inr (.inr fun hm => by rw [memS_iff.2 hm] at h5; cases h5)
    · rcases h6 with ((h6 | h6) | h6) | h6
      · exact .inl h6
      · exact .inr (.inl h6)
      · exact .inr (.inr (.inl fun hm => by rw [memS_iff.2 hm] at h6; cases h6))
      · exact .inr (.inr (.inr h6))

/-- Whatever is listed with what it waits for is listed with all its ancestors. -/
theorem StgOk.up (G : StgOk T ops anc) {p : Nat → Prop} (hc : ∀ i o, ops[i]? = some o → p i → ∀ e ∈ o.after, Region.binds .any e = true → p e.on) :
    ∀ (m i : Nat), i < m → ∀ o, ops[i]? = some o → (∀ e ∈ o.after, Region.binds .any e = true → p e.on) → ∀ j, inM j (nthN anc i) = true → p j := by
  intro m
  induction m with
  | zero => intro i hi; omega
  | succ m ih =>
    intro i hi o ho hd j hj
    rw [G.ancs i o ho] at hj
    have key : ∀ l : List Edge, (∀ e ∈ l, e ∈ o.after) → inM j (ancM anc l) = true → p j := by
      intro l
      induction l with
      | nil => intro _ h; simp [ancM, inM] at h
      | cons x l ihl =>
        intro hl h
        unfold ancM at h
        cases hb : Region.binds .any x with
        | false => rw [hb] at h; exact ihl (fun e he => hl e (by simp [he])) h
        | true =>
          rw [hb] at h
          have hx := hl x (by simp)
          have h' : inM j (addM x.on (nthN anc x.on)) = true ∨ inM j (ancM anc l) = true := by
            unfold inM at h ⊢
            have e1 : Nat.lor (addM x.on (nthN anc x.on)) (ancM anc l) = addM x.on (nthN anc x.on) ||| ancM anc l := rfl
            simp only [e1, Nat.testBit_or] at h
            simpa using h
          rcases h' with h' | h'
          · rw [inM_add, Bool.or_eq_true] at h'
            have hpx := hd x hx hb
            rcases h' with h' | h'
            · have hlt := G.edge i o ho x hx hb
              cases hox : ops[x.on]? with
              | none =>
                exfalso
                have := (Array.getElem?_eq_some_iff.1 ho).1
                have := Array.getElem?_eq_none_iff.1 hox
                omega
              | some ox => exact ih x.on (by omega) ox hox (fun e he hbe => hc _ _ hox hpx e he hbe) j h'
            · rw [← Nat.eq_of_beq_eq_true h']; exact hpx
          · exact ihl (fun e he => hl e (by simp [he])) h'
    exact key _ (fun e he => by simpa using he) hj

theorem coversB_spec {D : Nat} {fs : List Nat} : ∀ {l : List Oper} {k : Nat}, coversB D fs k l = true → ∀ i o, l[i]? = some o → inM (k + i) D = true ∨ leM (depsM o.after.toList) D = false ∨ (k + i) ∈ fs
  | [], _, _, _, _, h => by cases h
  | x :: l, k, h, i, o, ho => by
    have h : ((inM k D || !leM (depsM x.after.toList) D || memS k fs) && coversB D fs (k + 1) l) = true := h
    rw [Bool.and_eq_true] at h
    cases i with
    | zero =>
      have : x = o := by simpa using ho
      subst this
      have h1 := h.1
      rw [Bool.or_eq_true, Bool.or_eq_true] at h1
      rcases h1 with (h1 | h1) | h1
      · exact .inl h1
      · exact .inr (.inl (by simpa using h1))
      · exact .inr (.inr (memS_iff.1 h1))
    | succ i =>
      have := coversB_spec h.2 i o (by simpa using ho)
      rwa [show k + 1 + i = k + (i + 1) by omega] at this
theorem floatsB_spec {ops : List Oper} {anc : List Nat} {i : Nat} {fl : List Nat} : ∀ {l : List Nat}, floatsB T ops anc i fl l = true → ∀ e ∈ l, inM e (nthN anc i) = true ∨ e ∈ fl ∨ ∀ o, nthO ops e = some o → stillOp T o = true
  | x :: l, h, e, he => by
    simp only [floatsB, Bool.and_eq_true, Bool.or_eq_true] at h
    rcases List.mem_cons.1 he with rfl | he
    · rcases h.1 with (h | h) | h
      · exact .inl h
      · exact .inr (.inl (memS_iff.1 h))
      · exact .inr (.inr fun o ho => by rw [ho] at h; exact h)
    · exact floatsB_spec h.2 e he

/-- A branch that begins with step i. -/
theorem alt_pick {D : Nat} {q : List Nat} {K : St → World → Prop} {σ : St} {w : World} {i : Nat} : ∀ {s : Stg} {top : Bool}, i ∈ firsts s → okStg T ops.toList anc top s D q = true → vcStg P T B ops.toList K s σ w →
    ∃ fl r, okStg T ops.toList anc false (.w i fl r) D q = true ∧ vcStg P T B ops.toList K (.w i fl r) σ w
  | .done, _, h, _, _ => by simp [firsts] at h
  | .q _ _, _, h, _, _ => by simp [firsts] at h
  | .w j fl r, top, h, hok, hv => by
    have : i = j := by simpa [firsts] using h
    subst this
    refine ⟨fl, r, ?_, hv⟩
    simp only [okStg, Bool.and_eq_true] at hok ⊢
    exact ⟨⟨⟨⟨by simp, hok.1.1.1.2⟩, hok.1.1.2⟩, hok.1.2⟩, hok.2⟩
  | .alt a b, top, h, hok, hv => by
    simp only [okStg, Bool.and_eq_true] at hok
    simp only [firsts, List.mem_append] at h
    rcases h with h | h
    · exact alt_pick h hok.1.2 hv.1
    · exact alt_pick h hok.2 hv.2
theorem first_of {D : Nat} {q : List Nat} : ∀ {s : Stg}, okStg T ops.toList anc false s D q = true → ∃ i ∈ firsts s, inM i D = false ∧ ∃ o, ops[i]? = some o
  | .done, h => by simp [okStg] at h
  | .q _ _, h => by simp [okStg] at h
  | .w i fl r, h => by
    simp only [okStg, Bool.and_eq_true, Bool.not_eq_true'] at h
    refine ⟨i, by simp [firsts], h.1.1.1.2, ?_⟩
    have := h.1.1.2
    rw [nthO_get] at this
    cases ho : ops.toList[i]? with
    | none => rw [ho] at this; cases this
    | some o => exact ⟨o, by rw [← Array.getElem?_toList]; exact ho⟩
  | .alt a b, h => by
    simp only [okStg, Bool.and_eq_true] at h
    obtain ⟨i, h1, h2⟩ := first_of h.1.2
    exact ⟨i, by simp [firsts, h1], h2⟩
end
/-- Where a region that draws stands: D is told of, L is carried out, E is told of and still to come. -/
structure SInv (P : Program) (T : TypeId → Option TI) (n : Nat) (ops : Array Oper) (D : Nat) (q : List Nat) (L : Array Bool) (E : Nat → Prop) (a : Act) (σ : St) (w : World) : Prop where
  size : L.size = ops.size
  closed : ∀ (j : Nat) (oj : Oper), ops[j]? = some oj → L.getD j false = true → ∀ e ∈ oj.after, Region.binds .any e = true → L.getD e.on false = true
  dmem : ∀ i, i < ops.size → (inM i D = true ↔ (L.getD i false = true ∨ E i))
  dclosed : ∀ (j : Nat) (oj : Oper), ops[j]? = some oj → inM j D = true → ∀ e ∈ oj.after, Region.binds .any e = true → inM e.on D = true
  pend : ∀ e, E e → L.getD e true = false ∧ e ∈ q ∧ ∃ o, ops[e]? = some o ∧ kindQ T o = true
  tsize : a.tmps.size = n
  ag : ∀ d, (∀ e, E e → ∀ o, ops[e]? = some o → dstIs o d = false) → a.tmps.getD d undef = σ d
  ye : ∀ e, E e → YE P T ops e σ w

theorem dstIs_iff {o : Oper} {d : Nat} : dstIs o d = true ↔ o.dst = some d := by
  unfold dstIs
  cases o.dst with
  | none => simp
  | some x => simp
theorem updo_same {σ : St} {o : Oper} {d : Nat} {v : Value} (h : o.dst = some d) : updo σ o.dst v d = v := by
  rw [h]; show cond (Nat.beq d d) v (σ d) = v; simp
theorem updo_ne {σ : St} {o : Oper} {d : Nat} {v : Value} (h : dstIs o d = false) : updo σ o.dst v d = σ d :=
  updo_frame fun x hx => by
    cases hb : Nat.beq d x with
    | false => rfl
    | true => rw [dstIs_iff.2 (by rw [hx, Nat.eq_of_beq_eq_true hb])] at h; cases h
theorem put_same {a : Act} {o : Oper} {d : Nat} {v : Value} (h : o.dst = some d) (hd : d < a.tmps.size) : (a.put o.dst v).tmps.getD d undef = v := by
  rw [h]; show (a.tmps.setIfInBounds d v).getD d undef = v
  simp [hd]
theorem put_ne {a : Act} {o : Oper} {d : Nat} {v : Value} (h : dstIs o d = false) : (a.put o.dst v).tmps.getD d undef = a.tmps.getD d undef := by
  cases hx : o.dst with
  | none => rfl
  | some x =>
    show (a.tmps.setIfInBounds x v).getD d undef = _
    have hne : x ≠ d := fun e => by rw [dstIs_iff.2 (by rw [hx, e])] at h; cases h
    simp [Array.getElem?_setIfInBounds_ne hne]
theorem put_size {a : Act} {o : Oper} {v : Value} : (a.put o.dst v).tmps.size = a.tmps.size := by
  cases o.dst with
  | none => rfl
  | some x => show (a.tmps.setIfInBounds x v).size = _; simp

theorem wantedA {ops : Array Oper} {o : Oper} {a : Act} {σ : St} (hag : Ag n a σ) (hall : allLt n (dstsOps ops.toList) = true) : Region.wanted o (yielded ops a.tmps) = wantedS ops.toList o σ := by
  unfold Region.wanted wantedS
  cases hg : o.guard with
  | none => rfl
  | some p =>
    obtain ⟨j, want⟩ := p
    simp only
    rw [yielded_eq hag hall j]
    cases hn : nthO ops.toList j with
    | none => rfl
    | some q =>
      simp only
      cases hd : q.dst with
      | none => rfl
      | some d =>
        simp only
        cases hs : σ d <;> first | rfl | (rename_i b; cases b <;> cases want <;> rfl)

theorem YE.upd {ops : Array Oper} {e : Nat} {oe : Oper} {σ : St} {w : World} {o : Oper} {v : Value} (he : ops[e]? = some oe) (hs : ∀ cs b, oe.op ≠ .select cs b) (h : YE P T ops e σ w) (hl : ∀ d, o.dst = some d → d ∉ looks ops.toList oe ∧ dstIs oe d = false) : YE P T ops e (updo σ o.dst v) w := by
  intro o' ho'
  rw [he] at ho'
  cases ho'
  obtain ⟨h1, h2⟩ := h oe he
  have hk : ∀ d ∈ looks ops.toList oe, updo σ o.dst v d = σ d := fun d hd => updo_ne (by
    cases hx : dstIs o d with
    | false => rfl
    | true => exact absurd hd (hl d (dstIs_iff.1 hx)).1)
  have hd' : ∀ d, oe.dst = some d → updo σ o.dst v d = σ d := fun d hd => updo_ne (by
    cases hx : dstIs o d with
    | false => rfl
    | true => have := (hl d (dstIs_iff.1 hx)).2; rw [dstIs_iff.2 hd] at this; cases this)
  rw [wantedS_congr hk]
  refine ⟨fun hw => ?_, fun hw d hd => by rw [hd' d hd]; exact h2 hw d hd⟩
  obtain ⟨u, h3, h4⟩ := h1 hw
  refine ⟨u, fun x hx => ?_, fun d hd => by rw [hd' d hd]; exact h4 d hd⟩
  rw [exec_congr (ρ := ev (updo σ o.dst v)) (σ := σ) (ops := ops.toList) hs (fun x hx => ev_const hx) hk]
  exact h3 x hx
theorem YE.still {ops : Array Oper} {e : Nat} {σ : St} {w u : World} (h : YE P T ops e σ w) (hs : ∀ o, ops[e]? = some o → stillOp T o = true) : YE P T ops e σ u := by
  intro o ho
  obtain ⟨h1, h2⟩ := h o ho
  refine ⟨fun hw => ?_, h2⟩
  obtain ⟨v, h3, h4⟩ := h1 hw
  exact ⟨v, fun x _ => h3 x (.inl (hs o ho)), h4⟩

theorem stabs_spec {ops : List Oper} {σ : St} {w : World} {X : Prop} : ∀ {l : List Nat}, stabs P T ops σ w X l → X ∧ ∀ e ∈ l, ∀ o, nthO ops e = some o → guardW ops o.guard σ (fun σ => vcOpR P T o (ev σ) w fun v => vEq σ o.dst v) (fun _ => True)
  | [], h => ⟨h, fun e he => by cases he⟩
  | i :: l, h => by
    obtain ⟨h1, h2⟩ := stabs_spec (l := l) h.2
    refine ⟨h1, fun e he o ho => ?_⟩
    rcases List.mem_cons.1 he with rfl | he
    · have := h.1; rw [ho] at this; exact this
    · exact h2 e he o ho

theorem getD_flip {L : Array Bool} {i : Nat} (h : L.getD i true = false) : i < L.size := by
  by_cases hi : i < L.size
  · exact hi
  · simp [Array.getElem?_eq_none (by omega : L.size ≤ i)] at h
theorem getD_true {L : Array Bool} {i : Nat} (h : ¬ L.getD i false = true) (hi : i < L.size) : L.getD i true = false := by
  simp [hi] at h ⊢; exact h
theorem getD_up {L : Array Bool} {i : Nat} (h : L.getD i false = true) : L.getD i true = true := by
  by_cases hi : i < L.size
  · simp [hi] at h ⊢; exact h
  · simp [Array.getElem?_eq_none (by omega : L.size ≤ i)]
theorem set_self {L : Array Bool} {i : Nat} (h : i < L.size) : (L.setIfInBounds i true).getD i false = true := by simp [h]

section
variable {ops : Array Oper} {anc : List Nat}

/-- If nothing may come up, all is carried out. -/
theorem allListed (G : StgOk T ops anc) {L : Array Bool} (hz : L.size = ops.size) (hr : Region.ready .any ops L = []) : ∀ (m i : Nat), i < m → i < ops.size → L.getD i false = true := by
  intro m
  induction m with
  | zero => intro i hi; omega
  | succ m ih =>
    intro i hi hs
    by_cases h : L.getD i false = true
    · exact h
    · exfalso
      have ho : ops[i]? = some ops[i] := Array.getElem?_eq_getElem hs
      have : i ∈ Region.ready .any ops L := mem_ready.2 ⟨getD_true h (by omega), ops[i], ho, fun e he hb => by
        have := G.edge i _ ho e he hb
        exact ih e.on (by omega) (by omega)⟩
      rw [hr] at this; cases this
theorem not_full {D : Nat} {q : List Nat} : ∀ {s : Stg} {top : Bool}, okStg T ops.toList anc top s D q = true → s = .done ∨ ∃ (i : Nat) (o : Oper), inM i D = false ∧ ops[i]? = some o
  | .done, _, _ => .inl rfl
  | .q i r, top, h => by
    right
    simp only [okStg, Bool.and_eq_true, Bool.not_eq_true'] at h
    have := h.1.2
    rw [nthO_get] at this
    cases ho : ops.toList[i]? with
    | none => rw [ho] at this; cases this
    | some o => exact ⟨i, o, h.1.1.2, by rw [← Array.getElem?_toList]; exact ho⟩
  | .w i fl r, top, h => by
    right
    simp only [okStg, Bool.and_eq_true, Bool.not_eq_true'] at h
    have := h.1.1.2
    rw [nthO_get] at this
    cases ho : ops.toList[i]? with
    | none => rw [ho] at this; cases this
    | some o => exact ⟨i, o, h.1.1.1.2, by rw [← Array.getElem?_toList]; exact ho⟩
  | .alt a b, top, h => by
    right
    simp only [okStg, Bool.and_eq_true] at h
    obtain ⟨i, _, h1, o, h2⟩ := first_of h.1.2
    exact ⟨i, o, h1, h2⟩

variable {D : Nat} {q : List Nat} {L : Array Bool} {E : Nat → Prop} {a : Act} {σ : St} {w : World}

theorem SInv.seen (G : StgOk T ops anc) (I : SInv P T n ops D q L E a σ w) {i : Nat} {o : Oper} (ho : ops[i]? = some o) (hd : ∀ e ∈ o.after, Region.binds .any e = true → L.getD e.on false = true) :
    ∀ d ∈ looks ops.toList o, a.tmps.getD d undef = σ d := by
  intro d hd'
  refine I.ag d fun e he oe hoe => ?_
  cases hx : dstIs oe d with
  | false => rfl
  | true =>
    exfalso
    have hdst := dstIs_iff.1 hx
    obtain ⟨h1, _, oe', hoe', hq⟩ := I.pend e he
    rw [hoe] at hoe'; cases hoe'
    by_cases hei : e = i
    · subst hei
      rw [ho] at hoe; cases hoe
      exact G.slot e o ho hq d hdst hd'
    · rcases (G.pair e oe i o hoe ho hei d hdst).2.1 with h | h | h
      · have := G.up (p := fun j => L.getD j false = true) I.closed (i + 1) i (by omega) o ho hd e h
        rw [getD_both h1] at this; cases this
      · rw [h] at hq; cases hq
      · exact h hd'

/-- A step that is carried out, behind which D may be greater. -/
theorem SInv.wstep (G : StgOk T ops anc) (hall : allLt n (dstsOps ops.toList) = true) (hnd : noDefer ops = true) (I : SInv P T n ops D q L E a σ w) {i : Nat} {o : Oper} (ho : ops[i]? = some o) (hi : ¬ E i) (hL : L.getD i true = false) (hD : inM i D = false)
    (hd : ∀ e ∈ o.after, Region.binds .any e = true → L.getD e.on false = true) (v : Value) (w2 : World) (hye : ∀ e, E e → YE P T ops e (updo σ o.dst v) w2) : SInv P T n ops (addM i D) q (L.setIfInBounds i true) E (a.put o.dst v) (updo σ o.dst v) w2 := by
  have his : i < L.size := getD_flip hL
  refine ⟨by simp [I.size], fun j oj hj hl e he hb => ?_, fun j hj => ?_, fun j oj hj hm e he hb => ?_, fun e he => ?_, by rw [put_size]; exact I.tsize, fun d hd => ?_, hye⟩
  · by_cases hij : i = j
    · subst hij; rw [ho] at hj; cases hj; exact getD_set_true (hd e he hb)
    · rw [getD_set_ne false hij] at hl; exact getD_set_true (I.closed j oj hj hl e he hb)
  · rw [inM_add, Bool.or_eq_true, I.dmem j hj]
    by_cases hij : i = j
    · subst hij; simp [his]
    · have hb : Nat.beq i j = false := by cases hb : Nat.beq i j with | false => rfl | true => exact absurd (Nat.eq_of_beq_eq_true hb) hij
      rw [hb, getD_set_ne false hij]; simp
  · rw [inM_add, Bool.or_eq_true] at hm ⊢
    left
    rcases hm with hm | hm
    · exact I.dclosed j oj hj hm e he hb
    · have := Nat.eq_of_beq_eq_true hm
      subst this
      rw [ho] at hj; cases hj
      have hlt := G.edge i o ho e he hb
      have hon := hd e he hb
      exact (I.dmem e.on (by rw [I.size] at his; omega)).2 (.inl hon)
  · obtain ⟨h1, h2, h3⟩ := I.pend e he
    exact ⟨by rw [getD_set_ne true (fun x : i = e => hi (x ▸ he))]; exact h1, h2, h3⟩
  · by_cases hx : o.dst = some d
    · rw [updo_same hx]
      exact put_same hx (by rw [I.tsize]; exact dst_lt (by rw [← Array.mem_def]; exact Array.mem_of_getElem? ho) hall hx)
    · have hf : dstIs o d = false := by cases h : dstIs o d with | false => rfl | true => exact absurd (dstIs_iff.1 h) hx
      rw [put_ne hf, updo_ne hf]; exact I.ag d hd

theorem stg_sound (hT : TabOk P T) (hB : ∀ g, B g = true → ∀ args w, (callFunc g args).run P w = .ok (.enter g args) w) (hall : allLt n (dstsOps ops.toList) = true) (hnd : noDefer ops = true) (G : StgOk T ops anc) {l : Option Nat} {k : Nat}
    {K : St → World → Prop} {Q' : Exit → Act → World → Prop} {ds : List Deferred} {S : List Nat} {σ0 : St} (hQ : ∀ a' σ' w', Ag n a' σ' → a'.defers = ds → Fr S σ0 σ' → K σ' w' → Q' .normal a' w') (hS : ∀ i, memS i S = false → memS i (dstsOps ops.toList) = false) :
    ∀ (fuel : Nat) (s : Stg) (D : Nat) (q : List Nat) (σ : St) (w : World) (L : Array Bool) (E : Nat → Prop) (a : Act), okStg T ops.toList anc true s D q = true → vcStg P T B ops.toList K s σ w → SInv P T n ops D q L E a σ w → a.defers = ds → Fr S σ0 σ →
      unl L ops.size ≤ fuel → wpAnyIn (anyF l) k P .any ops Q' fuel L a w := by
  have hsel : ∀ (i : Nat) (o : Oper), ops[i]? = some o → ∀ cs b, o.op ≠ .select cs b := by
    intro i o ho cs b hc
    unfold noDefer at hnd
    have h1 := Array.all_eq_true'.1 hnd o (Array.mem_of_getElem? ho)
    rw [hc] at h1; cases h1
  have frs : ∀ {o : Oper} {i : Nat} {σ : St} {v : Value}, ops[i]? = some o → Fr S σ0 σ → Fr S σ0 (updo σ o.dst v) := fun ho hf j hj =>
    (updo_frame fun x hx => mem_dsts (S := []) (hS j hj) _ (by rw [← Array.mem_def]; exact Array.mem_of_getElem? ho) x hx).trans (hf j hj)
  have dfr : ∀ {a : Act} {o : Oper} {v : Value}, a.defers = ds → (a.put o.dst v).defers = ds := fun {a o v} h => by cases o.dst <;> exact h
  have eall : ∀ {L : Array Bool} {i : Nat} {a : Act} {E : Nat → Prop} {D : Nat} {q : List Nat} {σ : St} {w : World}, SInv P T n ops D q L E a σ w → ∀ {o : Oper}, ops[i]? = some o → (∀ e ∈ o.after, Region.binds .any e = true → L.getD e.on false = true) →
      execOp a.eval o = execOp (ev σ) o ∧ Region.wanted o (yielded ops a.tmps) = wantedS ops.toList o σ := by
    intro L i a E D q σ w I o ho hd
    have hs := I.seen G ho hd
    refine ⟨exec_congr (ops := ops.toList) (hsel i o ho) (fun x hx => eval_const hx) hs, ?_⟩
    rw [wantedA (σ := fun i => a.tmps.getD i undef) ⟨I.tsize, fun _ => rfl⟩ hall]
    exact wantedS_congr hs
  have fin : ∀ (s : Stg) (D : Nat) (q : List Nat) (σ : St) (w : World) (L : Array Bool) (E : Nat → Prop) (a : Act), okStg T ops.toList anc true s D q = true → vcStg P T B ops.toList K s σ w → SInv P T n ops D q L E a σ w → a.defers = ds → Fr S σ0 σ →
      Region.ready .any ops L = [] → Q' .normal a w := by
    intro s D q σ w L E a hok hv I hds hf hr
    have hl : ∀ i, i < ops.size → L.getD i false = true := fun i hi => allListed G I.size hr (i + 1) i (by omega) hi
    rcases not_full hok with rfl | ⟨i, o, h1, h2⟩
    · refine hQ a σ w ⟨I.tsize, fun d => I.ag d fun e he => ?_⟩ hds hf hv
      obtain ⟨h1, _, o, ho, _⟩ := I.pend e he
      have := getD_up (hl e (Array.getElem?_eq_some_iff.1 ho).1)
      rw [this] at h1; cases h1
    · have hi := (Array.getElem?_eq_some_iff.1 h2).1
      rw [(I.dmem i hi).2 (.inl (hl i hi))] at h1; cases h1
  intro fuel
  induction fuel with
  | zero =>
    intro s D q σ w L E a hok hv I hds hf hu
    have hr : Region.ready .any ops L = [] := by
      cases h : Region.ready .any ops L with
      | nil => rfl
      | cons i r =>
        exfalso
        have hi : i ∈ Region.ready .any ops L := by rw [h]; simp
        obtain ⟨h1, o, ho, _⟩ := mem_ready.1 hi
        have := unl_lt I.size (Array.getElem?_eq_some_iff.1 ho).1 h1
        omega
    exact ⟨hr, fin s D q σ w L E a hok hv I hds hf hr⟩
  | succ fuel ih =>
    have node : ∀ (s : Stg) (D : Nat) (q : List Nat) (σ : St) (w : World) (L : Array Bool) (E : Nat → Prop) (a : Act), coversB D (firsts s) 0 ops.toList = true → okStg T ops.toList anc true s D q = true → vcStg P T B ops.toList K s σ w → SInv P T n ops D q L E a σ w → a.defers = ds → Fr S σ0 σ →
        unl L ops.size ≤ fuel + 1 → wpAnyIn (anyF l) k P .any ops Q' (fuel + 1) L a w := by
      intro s D q σ w L E a hcov hok hv I hds hf hu
      refine ⟨fin s D q σ w L E a hok hv I hds hf, fun i hi => ?_⟩
      obtain ⟨hLi, o, ho, hd⟩ := mem_ready.1 hi
      have his := (Array.getElem?_eq_some_iff.1 ho).1
      have hlt := unl_lt I.size his hLi
      obtain ⟨e1, e2⟩ := eall I ho hd
      have hod := noDefer_spec hnd ho
      unfold wpOpIn
      rw [ho]
      simp only
      by_cases hE : E i
      · -- it has been told of: it yields what σ has
        obtain ⟨y1, y2⟩ := I.ye i hE o ho
        have key : ∀ v, (∀ d, o.dst = some d → σ d = v) → wpAnyIn (anyF l) k P .any ops Q' fuel (L.setIfInBounds i true) (a.put o.dst v) w := by
          intro v hvd
          refine ih s D q σ w (L.setIfInBounds i true) (fun e => E e ∧ e ≠ i) _ hok hv ⟨by simp [I.size], fun j oj hj hl e he hb => ?_, fun j hj => ?_, I.dclosed, fun e he => ?_, by rw [put_size]; exact I.tsize, fun d hdd => ?_, fun e he => I.ye e he.1⟩ (dfr hds) hf (by omega)
          · by_cases hij : i = j
            · subst hij; rw [ho] at hj; cases hj; exact getD_set_true (hd e he hb)
            · rw [getD_set_ne false hij] at hl; exact getD_set_true (I.closed j oj hj hl e he hb)
          · rw [I.dmem j hj]
            by_cases hij : i = j
            · subst hij; simp [hE, I.size, his]
            · rw [getD_set_ne false hij]
              have : j ≠ i := fun e => hij e.symm
              simp [this]
          · obtain ⟨h1, h2, h3⟩ := I.pend e he.1
            exact ⟨by rw [getD_set_ne true (fun x => he.2 x.symm)]; exact h1, h2, h3⟩
          · by_cases hx : o.dst = some d
            · rw [hvd d hx]
              exact put_same hx (by rw [I.tsize]; exact dst_lt (by rw [← Array.mem_def]; exact Array.mem_of_getElem? ho) hall hx)
            · have hff : dstIs o d = false := by cases h : dstIs o d with | false => rfl | true => exact absurd (dstIs_iff.1 h) hx
              rw [put_ne hff]
              refine I.ag d fun e he oe hoe => ?_
              by_cases hei : e = i
              · subst hei; rw [ho] at hoe; cases hoe; exact hff
              · exact hdd e ⟨he, hei⟩ oe hoe
        rw [e2]
        cases hw : wantedS ops.toList o σ with
        | true =>
          rw [if_pos rfl]
          obtain ⟨v, hr, hvd⟩ := y1 hw
          refine ⟨fun _ _ => trivial, ?_⟩
          rw [show (anyF l).round = l from rfl, mode_of hod, e1, hr w (.inr rfl)]
          exact key v hvd
        | false =>
          rw [if_neg (by simp)]
          exact ⟨fun _ _ => trivial, key undef (y2 hw)⟩
      · -- the next step
        have hiD : inM i D = false := by
          cases h : inM i D with
          | false => rfl
          | true =>
            rcases (I.dmem i his).1 h with h | h
            · rw [getD_both hLi] at h; cases h
            · exact absurd h hE
        have hle : leM (depsM o.after.toList) D = true := leM_of fun j hj => by
          obtain ⟨e, he, hb, rfl⟩ := depsM_of hj
          have he' : e ∈ o.after := by simpa using he
          have := G.edge i o ho e he' hb
          exact (I.dmem e.on (by omega)).2 (.inl (hd e he' hb))
        have hin : i ∈ firsts s := by
          have := coversB_spec hcov i o (by rw [Array.getElem?_toList]; exact ho)
          rw [Nat.zero_add] at this
          rcases this with h | h | h
          · rw [hiD] at h; cases h
          · rw [hle] at h; cases h
          · exact h
        obtain ⟨fl, r, hok2, hv2⟩ := alt_pick hin hok hv
        simp only [okStg, Bool.and_eq_true] at hok2
        obtain ⟨⟨⟨_, hkq⟩, hfl⟩, hokr⟩ := hok2
        have hno : nthO ops.toList i = some o := by rw [nthO_get, Array.getElem?_toList]; exact ho
        have hkq : kindQ T o = false := by
          rw [hno] at hkq
          simp only [Bool.and_eq_true] at hkq
          simpa using hkq.2
        have hv3 : guardW ops.toList o.guard σ (fun σ => vcOp P T B o (ev σ) w fun v w2 => stabs P T ops.toList (updo σ o.dst v) w2 (vcStg P T B ops.toList K r (updo σ o.dst v) w2) fl) (fun σ => vcStg P T B ops.toList K r (updo σ o.dst undef) w) := by
          have h := hv2
          simp only [vcStg] at h
          rw [hno] at h
          exact h
        -- what is still to come looks at none of its slots
        have apart : ∀ e, E e → ∀ oe, ops[e]? = some oe → ∀ d, o.dst = some d → d ∉ looks ops.toList oe ∧ dstIs oe d = false := by
          intro e he oe hoe d hdd
          obtain ⟨h1, _, oe', hoe', hq⟩ := I.pend e he
          rw [hoe] at hoe'; cases hoe'
          have hne : i ≠ e := fun x => hE (x ▸ he)
          obtain ⟨p1, _, p3⟩ := G.pair i o e oe ho hoe hne d hdd
          refine ⟨?_, p1⟩
          rcases p3 with h | h | h | h
          · exfalso
            have hes := (Array.getElem?_eq_some_iff.1 hoe).1
            have := G.up (p := fun j => inM j D = true) I.dclosed (e + 1) e (by omega) oe hoe (I.dclosed e oe hoe ((I.dmem e hes).2 (.inr he))) i h
            rw [hiD] at this; cases this
          · rw [h] at hq; cases hq
          · exact h
          · exfalso
            have := G.up (p := fun j => L.getD j false = true) I.closed (i + 1) i (by omega) o ho hd e h.2
            rw [getD_both h1] at this; cases this
        have yeu : ∀ e, E e → ∀ v, YE P T ops e (updo σ o.dst v) w := fun e he v => by
          obtain ⟨_, _, oe, hoe, _⟩ := I.pend e he
          exact (I.ye e he).upd hoe (hsel e oe hoe) (apart e he oe hoe)
        rw [e2]
        rcases guardW_S hv3 with ⟨hw, hx⟩ | ⟨hw, hy⟩
        · rw [hw, if_pos rfl]
          have hrun := vcOp_run hT hB hx
          rw [← e1] at hrun
          refine ends_wpIn hod hrun fun v w2 hst => ?_
          obtain ⟨hvr, hstb⟩ := stabs_spec hst
          refine ih r (addM i D) q (updo σ o.dst v) w2 (L.setIfInBounds i true) E _ hokr hvr (I.wstep G hall hnd ho hE hLi hiD hd v w2 fun e he => ?_) (dfr hds) (frs ho hf) (by omega)
          obtain ⟨h1, h2, oe, hoe, hq⟩ := I.pend e he
          have hnoe : nthO ops.toList e = some oe := by rw [nthO_get, Array.getElem?_toList]; exact hoe
          rcases floatsB_spec hfl e h2 with h | h | h
          · exfalso
            have := G.up (p := fun j => L.getD j false = true) I.closed (i + 1) i (by omega) o ho hd e h
            rw [getD_both h1] at this; cases this
          · have hst := hstb e h oe hnoe
            intro o' ho'
            rw [hoe] at ho'; cases ho'
            obtain ⟨z1, z2⟩ := yeu e he v oe hoe
            refine ⟨fun hwe => ?_, z2⟩
            rcases guardW_S hst with ⟨_, hr⟩ | ⟨hn, _⟩
            · obtain ⟨u, hue, hru⟩ := vcOpR_run hT hr
              refine ⟨u, hru, fun d hdd => ?_⟩
              rw [hdd] at hue
              exact hue.symm
            · rw [hwe] at hn; cases hn
          · exact (yeu e he v).still fun o' ho' => by rw [hoe] at ho'; cases ho'; exact h oe hnoe
        · rw [hw, if_neg (by simp)]
          refine ⟨fun _ _ => trivial, ih r (addM i D) q (updo σ o.dst undef) w (L.setIfInBounds i true) E _ hokr hy (I.wstep G hall hnd ho hE hLi hiD hd undef w fun e he => yeu e he undef) (dfr hds) (frs ho hf) (by omega)⟩
    intro s
    induction s with
    | done =>
      intro D q σ w L E a hok hv I hds hf hu
      have hc := hok
      simp only [okStg, Bool.and_eq_true] at hc
      exact node .done D q σ w L E a hc.2 hok hv I hds hf hu
    | w i fl r _ =>
      intro D q σ w L E a hok hv I hds hf hu
      have hc := hok
      simp only [okStg, Bool.and_eq_true] at hc
      exact node (.w i fl r) D q σ w L E a (show coversB D [i] 0 ops.toList = true by simpa using hc.1.1.1.1) hok hv I hds hf hu
    | alt x y _ _ =>
      intro D q σ w L E a hok hv I hds hf hu
      have hc := hok
      simp only [okStg, Bool.and_eq_true] at hc
      exact node (.alt x y) D q σ w L E a (show coversB D (firsts x ++ firsts y) 0 ops.toList = true by simpa using hc.1.1) hok hv I hds hf hu
    | q i r ihs =>
      intro D q σ w L E a hok hv I hds hf hu
      simp only [okStg, Bool.and_eq_true, Bool.not_eq_true'] at hok
      obtain ⟨⟨⟨_, hiD⟩, hko⟩, hokr⟩ := hok
      cases hno : nthO ops.toList i with
      | none => rw [hno] at hko; cases hko
      | some o =>
        have ho : ops[i]? = some o := by rw [nthO_get, Array.getElem?_toList] at hno; exact hno
        have his := (Array.getElem?_eq_some_iff.1 ho).1
        rw [hno] at hko
        simp only [Bool.and_eq_true] at hko
        obtain ⟨hle, hkq⟩ := hko
        have hnl : ¬ (L.getD i false = true ∨ E i) := fun h => by rw [(I.dmem i his).2 h] at hiD; cases hiD
        have hLi : L.getD i true = false := getD_true (fun h => hnl (.inl h)) (by rw [I.size]; exact his)
        have hself : ∀ (v : Value), ∀ d ∈ looks ops.toList o, updo σ o.dst v d = σ d := fun v d hd => updo_ne (by
          cases hx : dstIs o d with
          | false => rfl
          | true => exact absurd hd (G.slot i o ho hkq d (dstIs_iff.1 hx)))
        have key : ∀ v, vcStg P T B ops.toList K r (updo σ o.dst v) w → ((wantedS ops.toList o σ = true ∧ ∀ u : World, stillOp T o = true ∨ u.heap = w.heap → (execOp (ev σ) o).run P u = .ok (.value v) u) ∨ (wantedS ops.toList o σ = false ∧ v = undef)) →
            wpAnyIn (anyF l) k P .any ops Q' (fuel + 1) L a w := by
          intro v hvr hwv
          refine ihs (addM i D) (i :: q) (updo σ o.dst v) w L (fun e => E e ∨ e = i) a hokr hvr ⟨I.size, I.closed, fun j hj => ?_, fun j oj hj hm e he hb => ?_, fun e he => ?_, I.tsize, fun d hd => ?_, fun e he => ?_⟩ hds (frs ho hf) hu
          · rw [inM_add, Bool.or_eq_true, I.dmem j hj]
            constructor
            · rintro ((h | h) | h)
              · exact .inl h
              · exact .inr (.inl h)
              · exact .inr (.inr (Nat.eq_of_beq_eq_true h).symm)
            · rintro (h | h | h)
              · exact .inl (.inl h)
              · exact .inl (.inr h)
              · subst h; exact .inr (by simp)
          · rw [inM_add, Bool.or_eq_true] at hm ⊢
            left
            rcases hm with hm | hm
            · exact I.dclosed j oj hj hm e he hb
            · have := Nat.eq_of_beq_eq_true hm
              subst this
              rw [ho] at hj; cases hj
              exact leM_spec hle (depsM_mem (by simpa using he) hb)
          · rcases he with he | rfl
            · obtain ⟨h1, h2, h3⟩ := I.pend e he
              exact ⟨h1, by simp [h2], h3⟩
            · exact ⟨hLi, by simp, o, ho, hkq⟩
          · rw [updo_ne (hd i (.inr rfl) o ho)]
            exact I.ag d fun e he oe hoe => hd e (.inl he) oe hoe
          · rcases he with he | rfl
            · obtain ⟨h1, h2, oe, hoe, hq⟩ := I.pend e he
              refine (I.ye e he).upd hoe (hsel e oe hoe) fun d hdd => ?_
              have hne : i ≠ e := fun x => hnl (.inr (x ▸ he))
              obtain ⟨p1, p2, _⟩ := G.pair i o e oe ho hoe hne d hdd
              refine ⟨?_, p1⟩
              rcases p2 with h | h | h
              · exfalso
                have hes := (Array.getElem?_eq_some_iff.1 hoe).1
                have := G.up (p := fun j => inM j D = true) I.dclosed (e + 1) e (by omega) oe hoe (I.dclosed e oe hoe ((I.dmem e hes).2 (.inr he))) i h
                rw [hiD] at this; cases this
              · rw [h] at hkq; cases hkq
              · exact h
            · intro o' ho'
              rw [ho] at ho'; cases ho'
              rw [wantedS_congr (hself v)]
              refine ⟨fun hw => ?_, fun hw d hdd => ?_⟩
              · rcases hwv with ⟨_, hr⟩ | ⟨h, _⟩
                · refine ⟨v, fun u hu => ?_, fun d hdd => updo_same hdd⟩
                  rw [exec_congr (ρ := ev (updo σ o.dst v)) (σ := σ) (ops := ops.toList) (hsel _ o ho) (fun x hx => ev_const hx) (hself v)]
                  exact hr u hu
                · rw [hw] at h; cases h
              · rcases hwv with ⟨h, _⟩ | ⟨_, h⟩
                · rw [hw] at h; cases h
                · rw [updo_same hdd, h]
        have hv3 : guardW ops.toList o.guard σ (fun σ => vcOpR P T o (ev σ) w fun v => vcStg P T B ops.toList K r (updo σ o.dst v) w) (fun σ => vcStg P T B ops.toList K r (updo σ o.dst undef) w) := by
          have h := hv
          simp only [vcStg] at h
          rw [hno] at h
          exact h
        rcases guardW_S hv3 with ⟨hw, hx⟩ | ⟨hw, hy⟩
        · obtain ⟨v, hvr, hr⟩ := vcOpR_run hT hx
          exact key v hvr (.inl ⟨hw, hr⟩)
        · exact key undef hy (.inr ⟨hw, rfl⟩)
end
end
end Go.Proofs.YtgepmlgkeljelaaGreat.Vc
