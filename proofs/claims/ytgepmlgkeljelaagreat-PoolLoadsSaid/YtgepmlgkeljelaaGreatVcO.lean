/- A region that draws its order, whose operations read (or call what reads) but for a forced tail: one walk serves every order, in a round's frame too. -/
import Derived.Test.YtgepmlgkeljelaaGreatVc
import Derived.StillTail
namespace Go.Proofs.YtgepmlgkeljelaaGreat.Vc
open Go
section
variable {P : Program} {ops : Array Oper} {md : Region.Mode} {C : World → Prop} {l : Option Nat}

/-- The fence that lets all in; in a round's frame, or a plain one. -/
def anyF (l : Option Nat) : Fence := { Fence.wide with round := l }
theorem anyF_fn (l : Option Nat) (f : FuncId) : (anyF l).fn f := trivial
theorem callsIn_any {n : Nat} {f : FuncId} {args : Array Value} {w : World} {R : Ending → World → Prop} (h : Calls P f args w R) : CallsIn (anyF l) n P f args w R :=
  (callsIn_wide (n := n)).2 h

theorem mode_of {o : Oper} (h : ∀ c, o.op ≠ .defer c) (ρ : Operand → Value) : Oper.semAt l ρ o = execOp ρ o := Oper.semAt_eq l ρ o h

/-- No operation defers. -/
def noDefer (ops : Array Oper) : Bool := ops.all fun o => match o.op with | .defer _ => false | .select _ _ => false | _ => true
theorem noDefer_spec (h : noDefer ops = true) {i : Nat} {o : Oper} (ho : ops[i]? = some o) : ∀ c, o.op ≠ .defer c := by
  intro c hc
  have h1 := Array.all_eq_true'.1 h o (Array.mem_of_getElem? ho)
  rw [hc] at h1
  cases h1

theorem wpIn_of_quiet {o : Oper} {a : Act} {K : Act → Prop} {K' : Act → World → Prop} {Q' : Exit → Act → World → Prop} {w : World} {n : Nat} (hd : ∀ c, o.op ≠ .defer c) (hw : C w)
    (h : ∀ a w', C w' → K a → K' a w') (hh : o.quiet P a C K) : o.wpIn (anyF l) n P a w K' Q' := by
  obtain ⟨v, h1, h2⟩ := hh
  have h3 := h1 w hw
  refine ⟨fun _ _ => trivial, ?_⟩
  rw [show (anyF l).round = l from rfl, mode_of hd]
  unfold Oper.quietAt at h3
  generalize (execOp a.eval o).run P w = r at *
  cases r with
  | ok x w' =>
    cases x <;> simp only [Oper.quietUpon] at h3 <;> simp only [Oper.uponIn]
    case value u =>
      obtain ⟨e1, e2⟩ := h3
      rw [e1, e2]
      exact h _ _ hw h2
    case skip =>
      obtain ⟨e1, e2⟩ := h3
      rw [e1, ← e2]
      exact h _ _ hw h2
    case enter f args =>
      obtain ⟨e1, hc⟩ := h3
      rw [e1]
      refine ⟨fun h => by simp [anyF, Fence.wide] at h, callsIn_any (hc.mono fun e w'' ⟨he, hw''⟩ => ?_)⟩
      subst he; exact h _ _ hw'' h2
  | halt x w' => simp only [Oper.quietUpon] at h3

theorem wpOpIn_of_qOp {i : Nat} {a : Act} {K : Act → Prop} {K' : Act → World → Prop} {Q' : Exit → Act → World → Prop} {w : World} {n : Nat} (hnd : noDefer ops = true) (hC : C w)
    (h : ∀ a w', C w' → K a → K' a w') (hh : qOp P ops C i K a) : wpOpIn (anyF l) n P ops Q' i K' a w := by
  unfold qOp at hh
  unfold wpOpIn
  cases ho : ops[i]? with
  | none => rw [ho] at hh; exact h _ _ hC hh
  | some o =>
    rw [ho] at hh
    simp only at hh ⊢
    split
    · rename_i hw; rw [if_pos hw] at hh; exact wpIn_of_quiet (noDefer_spec hnd ho) hC h hh
    · rename_i hw; rw [if_neg hw] at hh; exact ⟨fun _ _ => trivial, h _ _ hC hh⟩

/-! ### The head: quiet operations, in whatever order -/
def memN (i : Nat) : List Nat → Bool
  | [] => false
  | j :: l => cond (Nat.beq i j) true (memN i l)
theorem memN_iff {i : Nat} : ∀ {l : List Nat}, memN i l = true ↔ i ∈ l
  | [] => by simp [memN]
  | j :: l => by
    have := memN_iff (i := i) (l := l)
    simp only [memN]
    cases hb : Nat.beq i j with
    | true => have := Nat.eq_of_beq_eq_true hb; simp [this]
    | false =>
      have hne : i ≠ j := fun e => by subst e; simp at hb
      simp [hne, this]

def wpAnyH (P : Program) (md : Region.Mode) (ops : Array Oper) (C : World → Prop) (H : List Nat) (L : Array Bool → Act → Prop) : Nat → Array Bool → Act → Prop
  | 0, listed, a => L listed a
  | f + 1, listed, a =>
    Region.ready md ops listed ≠ [] ∧ ∀ i ∈ Region.ready md ops listed, i ∈ H ∧ qOp P ops C i (wpAnyH P md ops C H L f (listed.setIfInBounds i true)) a

theorem wpAnyIn_of_head {H : List Nat} {g m : Nat} {L : Array Bool → Act → Prop} {Q' : Exit → Act → World → Prop} (hnd : noDefer ops = true) (hL : ∀ listed a w, C w → L listed a → wpAnyIn (anyF l) m P md ops Q' g listed a w) :
    ∀ (f : Nat) (listed : Array Bool) (a : Act) (w : World), C w → wpAnyH P md ops C H L f listed a → wpAnyIn (anyF l) m P md ops Q' (f + g) listed a w
  | 0, listed, a, w, hw, h => by rw [Nat.zero_add]; exact hL _ _ _ hw h
  | f + 1, listed, a, w, hw, h => by
    rw [show f + 1 + g = (f + g) + 1 by omega]
    exact ⟨fun h0 => absurd h0 h.1, fun i hi => wpOpIn_of_qOp hnd hw (fun a' w' hw' h' => wpAnyIn_of_head hnd hL f _ a' w' hw' h') (h.2 i hi).2⟩

/-- What has been carried out holds all that it waits for. -/
def Closed (md : Region.Mode) (ops : Array Oper) (listed : Array Bool) : Prop :=
  listed.size = ops.size ∧ ∀ j oj, ops[j]? = some oj → listed.getD j false = true → ∀ e ∈ oj.after, Region.binds md e = true → listed.getD e.on false = true
theorem Closed.set {i : Nat} {listed : Array Bool} (inv : Closed md ops listed) (hi : i ∈ Region.ready md ops listed) : Closed md ops (listed.setIfInBounds i true) := by
  obtain ⟨_, oi, hoi, hall⟩ := mem_ready.1 hi
  refine ⟨by simp [inv.1], fun j oj hj hl e he hb => ?_⟩
  by_cases hij : i = j
  · subst hij
    have : oj = oi := Option.some.inj (hj.symm.trans hoi)
    subst this
    exact getD_set_true (hall e he hb)
  · rw [getD_set_ne false hij] at hl
    exact getD_set_true (inv.2 j oj hj hl e he hb)

/-- Does j wait for q, by whatever road? -/
def waits (md : Region.Mode) (ops : Array Oper) : Nat → Nat → Nat → Bool
  | 0, _, _ => false
  | f + 1, j, q => match ops[j]? with
    | some oj => oj.after.toList.any fun e => Region.binds md e && (Nat.beq e.on q || waits md ops f e.on q)
    | none => false
theorem waits_listed {listed : Array Bool} (inv : Closed md ops listed) : ∀ (f j q : Nat), listed.getD j false = true → waits md ops f j q = true → listed.getD q false = true
  | 0, _, _, _, h => by cases h
  | f + 1, j, q, hj, h => by
    unfold waits at h
    cases ho : ops[j]? with
    | none => rw [ho] at h; cases h
    | some oj =>
      rw [ho] at h
      obtain ⟨e, he, h2⟩ := List.any_eq_true.1 h
      simp only [Bool.and_eq_true, Bool.or_eq_true] at h2
      have h3 := inv.2 j oj ho hj e (by simpa using he) h2.1
      rcases h2.2 with h4 | h4
      · rw [← Nat.eq_of_beq_eq_true h4]; exact h3
      · exact waits_listed inv f e.on q h3 h4
theorem waits_ready {listed : Array Bool} (inv : Closed md ops listed) {f j q : Nat} (hj : j ∈ Region.ready md ops listed) (h : waits md ops f j q = true) : listed.getD q false = true := by
  cases f with
  | zero => cases h
  | succ f =>
    obtain ⟨_, oj, ho, hall⟩ := mem_ready.1 hj
    unfold waits at h
    rw [ho] at h
    obtain ⟨e, he, h2⟩ := List.any_eq_true.1 h
    simp only [Bool.and_eq_true, Bool.or_eq_true] at h2
    have h3 := hall e (by simpa using he) h2.1
    rcases h2.2 with h4 | h4
    · rw [← Nat.eq_of_beq_eq_true h4]; exact h3
    · exact waits_listed inv f e.on q h3 h4

theorem wpAnyH_first {H : List Nat} {i : Nat} {oi : Oper} {v : Value} {L : Array Bool → Act → Prop} (hi : ops[i]? = some oi) (hsel : ∀ (j : Nat) (o : Oper) cs b, ops[j]? = some o → o.op ≠ .select cs b)
    {pre : List Nat} (hwait : ∀ listed, Closed md ops listed → (∀ p ∈ pre, listed.getD p false = true) → ∀ i, i ∈ H → listed.getD i true = false → ∀ j ∈ Region.ready md ops listed, j ∈ H) (hin : i ∈ H)
    (hdone : ∀ listed a, L listed a → ∀ j ∈ Region.ready md ops listed, j ∉ H) :
    ∀ (f : Nat) (listed : Array Bool) (a : Act), Closed md ops listed → (∀ p ∈ pre, listed.getD p false = true) →
      (∀ j oj, ops[j]? = some oj → j ≠ i → listed.getD j true = false → (∀ e ∈ oj.after, Region.binds md e = true → e.on ≠ i) → oi.apart ops oj = true) →
      i ∈ Region.ready md ops listed → YieldsIn P ops C oi v a →
      wpAnyH P md ops C H L f (listed.setIfInBounds i true) (a.put oi.dst v) → wpAnyH P md ops C H L (f + 1) listed a := by
  intro f
  induction f with
  | zero =>
    intro listed a inv hpre _ hr hy HH
    have hun := (mem_ready.1 hr).1
    refine ⟨fun h => (by rw [h] at hr; cases hr), fun j hj => ?_⟩
    have hjn := hwait _ inv hpre i hin hun j hj
    refine ⟨hjn, ?_⟩
    by_cases hji : j = i
    · subst hji; exact hy.qOp hi HH
    · exact absurd hjn (hdone _ _ HH j (ready_mono hj hji))
  | succ f ih =>
    intro listed a inv hpre hfree hr hy HH
    have hun := (mem_ready.1 hr).1
    refine ⟨fun h => (by rw [h] at hr; cases hr), fun j hj => ?_⟩
    have hjn := hwait _ inv hpre i hin hun j hj
    refine ⟨hjn, ?_⟩
    by_cases hji : j = i
    · subst hji; exact hy.qOp hi HH
    · have h1 := (HH.2 j (ready_mono hj hji)).2
      obtain ⟨hjun, oj, hoj, hall⟩ := mem_ready.1 hj
      have hnot : ∀ e ∈ oj.after, Region.binds md e = true → e.on ≠ i := fun e he hb heq => by
        have h1 := hall e he hb
        rw [heq, getD_both hun] at h1
        cases h1
      have h2 := qOp_put hoj (hfree j oj hoj hji hjun hnot) (fun cs b => hsel i oi cs b hi) (fun cs b => hsel j oj cs b hoj) hy h1
      have hfree' : ∀ k ok, ops[k]? = some ok → k ≠ i → (listed.setIfInBounds j true).getD k true = false →
          (∀ e ∈ ok.after, Region.binds md e = true → e.on ≠ i) → oi.apart ops ok = true := fun k ok hk hki hun hno => by
        refine hfree k ok hk hki ?_ hno
        by_cases hjk : j = k
        · subst hjk; exact hjun
        · rw [getD_set_ne true hjk] at hun; exact hun
      refine qOp_mono (fun a' h3 => ih (listed.setIfInBounds j true) a' (inv.set hj) (fun p hp => getD_set_true (hpre p hp)) hfree' (ready_mono hr (Ne.symm hji)) h3.1 ?_) h2
      rw [Array.setIfInBounds_comm _ _ hji]
      exact h3.2

/-- The operations of these numbers. -/
def getOps (ops : Array Oper) : List Nat → List Oper
  | [] => []
  | i :: l => match nthO ops.toList i with | some o => o :: getOps ops l | none => getOps ops l
where nthO : List Oper → Nat → Option Oper
  | [], _ => none
  | o :: _, 0 => some o
  | _ :: l, i + 1 => nthO l i
theorem getOps_nth : ∀ (l : List Oper) (i : Nat), getOps.nthO l i = l[i]?
  | [], i => by simp [getOps.nthO]
  | o :: l, 0 => rfl
  | o :: l, i + 1 => by simpa [getOps.nthO] using getOps_nth l i
theorem getOps_cons {i : Nat} {l : List Nat} {o : Oper} (h : ops[i]? = some o) : getOps ops (i :: l) = o :: getOps ops l := by
  show (match getOps.nthO ops.toList i with | some o => o :: getOps ops l | none => getOps ops l) = _
  rw [getOps_nth, Array.getElem?_toList, h]

/-- A list of operations, one behind the other. -/
def wpListIn (F : Fence) (n : Nat) (P : Program) (ops : Array Oper) (Q : Exit → Act → World → Prop) : List Oper → Act → World → Prop
  | [], a, w => Q .normal a w
  | o :: rest, a, w =>
    if Region.wanted o (yielded ops a.tmps) then o.wpIn F n P a w (wpListIn F n P ops Q rest) Q
    else (∀ f, o.about P w a.eval = some f → F.fn f) ∧ wpListIn F n P ops Q rest (a.put o.dst undef) w

/-- The tail: at each step just one may come up. -/
def seqL (md : Region.Mode) (ops : Array Oper) : List Nat → Array Bool → Bool
  | [], listed => (Region.ready md ops listed).isEmpty
  | k :: l, listed => decide (Region.ready md ops listed = [k]) && seqL md ops l (listed.setIfInBounds k true)
/-- The head, in one order. -/
def headL (md : Region.Mode) (ops : Array Oper) (ts : List Nat) : List Nat → Array Bool → Bool
  | [], listed => seqL md ops ts listed
  | k :: l, listed => (Region.ready md ops listed).contains k && Region.free md ops listed k && headL md ops ts l (listed.setIfInBounds k true)
/-- What is taken ahead of all. -/
def preL (md : Region.Mode) (ops : Array Oper) (qs ts : List Nat) : List Nat → Array Bool → Bool
  | [], listed => headL md ops ts qs listed
  | k :: l, listed => (Region.ready md ops listed).contains k && Region.free md ops listed k && preL md ops qs ts l (listed.setIfInBounds k true)

theorem seqL_ready {ts : List Nat} {listed : Array Bool} (h : seqL md ops ts listed = true) : ∀ j ∈ Region.ready md ops listed, j ∈ ts := by
  cases ts with
  | nil => intro j hj; simp only [seqL, List.isEmpty_iff] at h; rw [h] at hj; cases hj
  | cons k l =>
    intro j hj
    simp only [seqL, Bool.and_eq_true, decide_eq_true_eq] at h
    rw [h.1] at hj
    have : j = k := by simpa using hj
    simp [this]

theorem wpAnyIn_of_seq {F : Fence} {m : Nat} {Q' : Exit → Act → World → Prop} : ∀ (ts : List Nat) (listed : Array Bool) (a : Act) (w : World),
    seqL md ops ts listed = true → wpListIn F m P ops Q' (getOps ops ts) a w → wpAnyIn F m P md ops Q' ts.length listed a w
  | [], _, _, _, hB, h => ⟨by simpa [seqL] using hB, h⟩
  | k :: l, listed, a, w, hB, h => by
    simp only [seqL, Bool.and_eq_true, decide_eq_true_eq] at hB
    have hk : k ∈ Region.ready md ops listed := by rw [hB.1]; simp
    obtain ⟨_, o, h0, _⟩ := mem_ready.1 hk
    rw [getOps_cons h0] at h
    refine ⟨fun h1 => (by rw [hB.1] at h1; cases h1), fun i hi => ?_⟩
    rw [hB.1] at hi
    have hik : i = k := by simpa using hi
    subst hik
    have hw : wpOpIn F m P ops Q' i (wpListIn F m P ops Q' (getOps ops l)) a w := by unfold wpOpIn; simp only [h0]; exact h
    exact wpOpIn_mono (fun a' w' h' => wpAnyIn_of_seq l _ a' w' hB.2 h') hw

theorem wpAnyH_lex {H : List Nat} {ts : List Nat} {Lq : Act → Prop} (hsel : Region.noSelect ops = true) {pre : List Nat}
    (hwait : ∀ listed, Closed md ops listed → (∀ p ∈ pre, listed.getD p false = true) → ∀ i, i ∈ H → listed.getD i true = false → ∀ j ∈ Region.ready md ops listed, j ∈ H) (hdis : ∀ t ∈ ts, t ∉ H) :
    ∀ (l : List Nat) (listed : Array Bool) (a : Act), (∀ i ∈ l, i ∈ H) → Closed md ops listed → (∀ p ∈ pre, listed.getD p false = true) →
    headL md ops ts l listed = true → wpQuiet P ops C Lq (getOps ops l) a →
    wpAnyH P md ops C H (fun listed' a' => seqL md ops ts listed' = true ∧ Lq a') l.length listed a
  | [], listed, a, _, _, _, hB, h => ⟨hB, h⟩
  | k :: l, listed, a, hl, inv, hpre, hB, h => by
    simp only [headL, Bool.and_eq_true] at hB
    obtain ⟨⟨hr, hf⟩, hB'⟩ := hB
    have hr' : k ∈ Region.ready md ops listed := by simpa using hr
    obtain ⟨_, o, h0, _⟩ := mem_ready.1 hr'
    rw [getOps_cons h0] at h
    have hst : qOp P ops C k (wpQuiet P ops C Lq (getOps ops l)) a := by unfold qOp; simp only [h0]; exact h
    obtain ⟨v, hy, hK⟩ := yieldsIn_of_qOp h0 hst
    exact wpAnyH_first h0 (Region.noSelect_spec hsel) hwait (hl k (by simp)) (fun listed' a' hL j hj => hdis j (seqL_ready hL.1 j hj)) l.length listed a inv hpre (Region.free_spec h0 hf) hr' hy
      (wpAnyH_lex hsel hwait hdis l _ _ (fun i hi => hl i (by simp [hi])) (inv.set hr') (fun p hp => getD_set_true (hpre p hp)) hB' hK)

/-- What is taken ahead of all yields its value in every world, and makes no call. -/
def wpPure (P : Program) (ops : Array Oper) (Q : Act → Prop) : List Oper → Act → Prop
  | [], a => Q a
  | o :: rest, a => ∃ v, YieldsFenced P ops o v a ∧ wpPure P ops Q rest (a.put o.dst v)

theorem wpPure_mono {Q Q' : Act → Prop} (hQ : ∀ a, Q a → Q' a) : ∀ {l : List Oper} {a : Act}, wpPure P ops Q l a → wpPure P ops Q' l a
  | [], _, h => hQ _ h
  | _ :: _, _, ⟨v, hy, h⟩ => ⟨v, hy, wpPure_mono hQ h⟩

theorem wpAnyIn_of_pre {F : Fence} (hro : F.round = none) {m g : Nat} {qs ts : List Nat} {Lq : Array Bool → Act → Prop} {Q' : Exit → Act → World → Prop} (hsel : Region.noSelect ops = true) (hQ : ∀ c a w, ¬ Q' (.panic c) a w) (all : List Nat)
    (hL : ∀ listed a w, C w → Closed md ops listed → (∀ p ∈ all, listed.getD p false = true) → headL md ops ts qs listed = true → Lq listed a → wpAnyIn F m P md ops Q' g listed a w) :
    ∀ (l : List Nat) (done : List Nat) (listed : Array Bool) (a : Act) (w : World), all = done ++ l → C w → Closed md ops listed → (∀ p ∈ done, listed.getD p false = true) → preL md ops qs ts l listed = true → wpPure P ops (fun a' => ∀ listed', Lq listed' a') (getOps ops l) a →
      wpAnyIn F m P md ops Q' (l.length + g) listed a w
  | [], done, listed, a, w, he, hw, inv, hd, hB, h => by
    rw [List.length_nil, Nat.zero_add]
    exact hL listed a w hw inv (by rw [he]; simpa using hd) hB (h listed)
  | k :: l, done, listed, a, w, he, hw, inv, hd, hB, h => by
    simp only [preL, Bool.and_eq_true] at hB
    obtain ⟨⟨hr, hf⟩, hB'⟩ := hB
    have hr' : k ∈ Region.ready md ops listed := by simpa using hr
    obtain ⟨hun, o, h0, _⟩ := mem_ready.1 hr'
    rw [getOps_cons h0] at h
    obtain ⟨v, hy, hK⟩ := h
    rw [show (k :: l).length + g = (l.length + g) + 1 by simp; omega]
    have hlt : k < listed.size := by rw [inv.1]; exact (Array.getElem?_eq_some_iff.1 h0).1
    refine wpAnyIn_take hro h0 hsel hf hr (fun c a w hc => absurd hc (hQ c _ w)) hy
      (wpAnyIn_of_pre hro hsel hQ all hL l (done ++ [k]) _ _ w (by rw [he]; simp) hw (inv.set hr') (fun p hp => ?_) hB' hK)
    rcases List.mem_append.1 hp with hp | hp
    · exact getD_set_true (hd p hp)
    · have : p = k := by simpa using hp
      subst this
      simp [hlt]

/-- The order's facts. -/
def orderB (ops : Array Oper) (pre qs ts : List Nat) : Bool :=
  Region.noSelect ops && noDefer ops && Nat.beq (pre.length + qs.length + ts.length) ops.size &&
    (List.range ops.size).all (fun i => memN i pre || memN i qs || memN i ts) && ts.all (fun t => !memN t qs) &&
    ts.all (fun t => qs.all fun q => waits .any ops ops.size t q) && preL .any ops qs ts pre (Array.replicate ops.size false)

theorem wpIn_region_head {id : Nat} {Q : Exit → Act → World → Prop} {a : Act} {w : World} {m : Nat} (pre qs ts : List Nat) (hm : P.follows .mixedOrders = true) (hB : orderB ops pre qs ts = true) (hpl : pre = [] ∨ (l = none ∧ ∀ c a w, ¬ Q (.panic c) a w))
    (hC : C { w with drawn := w.drawn + 1 })
    (h : wpPure P ops (fun a1 => wpQuiet P ops C (fun a' => ∀ w', C w' → wpListIn (anyF l) m P ops Q (getOps ops ts) a' w') (getOps ops qs) a1) (getOps ops pre) a) : (Code.region id ops true).wpIn (anyF l) m P Q a w := by
  simp only [orderB, Bool.and_eq_true] at hB
  obtain ⟨⟨⟨⟨⟨⟨hsel, hnd⟩, hsz⟩, hcov⟩, hdis⟩, hwt⟩, hpre⟩ := hB
  have hsz := Nat.eq_of_beq_eq_true hsz
  have inv0 : Closed .any ops (Array.replicate ops.size false) := ⟨by simp, fun j oj _ hl => by rw [getD_replicate_false] at hl; cases hl⟩
  have hcov' : ∀ j, j < ops.size → j ∈ pre ∨ j ∈ qs ∨ j ∈ ts := by
    intro j hj
    have := List.all_eq_true.1 hcov j (List.mem_range.2 hj)
    simp only [Bool.or_eq_true] at this
    rcases this with (h | h) | h
    · exact .inl (memN_iff.1 h)
    · exact .inr (.inl (memN_iff.1 h))
    · exact .inr (.inr (memN_iff.1 h))
  have hdis' : ∀ t ∈ ts, t ∉ qs := by
    intro t ht hq
    have := List.all_eq_true.1 hdis t ht
    rw [memN_iff.2 hq] at this
    cases this
  have hwait : ∀ listed, Closed .any ops listed → (∀ p ∈ pre, listed.getD p false = true) → ∀ i, i ∈ qs → listed.getD i true = false → ∀ j ∈ Region.ready .any ops listed, j ∈ qs := by
    intro listed inv hp i hi hun j hj
    obtain ⟨hjun, oj, hoj, _⟩ := mem_ready.1 hj
    rcases hcov' j (Array.getElem?_eq_some_iff.1 hoj).1 with h | h | h
    · have := hp j h; rw [getD_both hjun] at this; cases this
    · exact h
    · have h1 := List.all_eq_true.1 (List.all_eq_true.1 hwt j h) i hi
      have := waits_ready inv hj h1
      rw [getD_both hun] at this; cases this
  have core : ∀ listed a1 w1, C w1 → Closed .any ops listed → (∀ p ∈ pre, listed.getD p false = true) → headL .any ops ts qs listed = true →
      wpQuiet P ops C (fun a' => ∀ w', C w' → wpListIn (anyF l) m P ops Q (getOps ops ts) a' w') (getOps ops qs) a1 → wpAnyIn (anyF l) m P .any ops Q (qs.length + ts.length) listed a1 w1 := by
    intro listed a1 w1 hw1 inv hp hh hq
    have H := wpAnyH_lex (md := .any) hsel hwait hdis' qs listed a1 (fun i hi => hi) inv hp hh hq
    exact wpAnyIn_of_head (l := l) (m := m) (Q' := Q) (g := ts.length) hnd (fun listed a' w' hw' hL => wpAnyIn_of_seq ts listed a' w' hL.1 (hL.2 w' hw')) _ _ _ _ hw1 H
  refine wpIn_region_any hm ?_
  have fin : wpAnyIn (anyF l) m P .any ops Q (pre.length + (qs.length + ts.length)) (Array.replicate ops.size false) a { w with drawn := w.drawn + 1 } := by
    rcases hpl with rfl | ⟨rfl, hQ⟩
    · rw [List.length_nil, Nat.zero_add]
      exact core _ a _ hC inv0 (by simp) hpre h
    · exact wpAnyIn_of_pre (C := C) (md := .any) (F := anyF none) rfl (m := m) (g := qs.length + ts.length) (qs := qs) (ts := ts) (Lq := fun _ a1 => wpQuiet P ops C (fun a' => ∀ w', C w' → wpListIn (anyF none) m P ops Q (getOps ops ts) a' w') (getOps ops qs) a1) (Q' := Q) hsel hQ pre
        (fun listed a w hw inv hp hh hL => core listed a w hw inv hp hh hL) pre [] (Array.replicate ops.size false) a _ rfl hC inv0 (by simp) hpre (wpPure_mono (fun a' ha _ => ha) h)
  rwa [show pre.length + (qs.length + ts.length) = pre.length + qs.length + ts.length by omega, hsz] at fin
end
end Go.Proofs.YtgepmlgkeljelaaGreat.Vc
