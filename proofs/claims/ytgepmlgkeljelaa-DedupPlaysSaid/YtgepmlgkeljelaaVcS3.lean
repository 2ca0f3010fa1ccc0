/- The conditions are enough: slices, maps, and all reading operations together. -/
import Derived.Test.YtgepmlgkeljelaaVcS2
namespace Go.Proofs.Ytgepmlgkeljelaa.Vc
open Go

section
variable {P : Program} {T : TypeId → Option TI}

theorem slice_run (hT : TabOk P T) {t : TypeId} {x : Value} {lo hi mx : Option Value} {K : Value → Prop} (h00 : sliceW T t x lo hi mx K) : ∃ v, K v ∧ ∀ w : World, (Instr.sliceAt t x lo hi mx).run P w = .ok v w := by
  obtain ⟨hx, h0⟩ := bW_spec h00
  clear h00
  have hx' : mx ≠ none → hi ≠ none := by cases mx <;> cases hi <;> simp_all
  obtain ⟨ti, ht, h⟩ := tyW_spec h0
  clear h0
  obtain ⟨info, d, h1, hu, h2, h3, _⟩ := hT.info ht
  cases hk : ti.kd <;> rw [hk] at h h2 <;> simp only at h <;> try exact h.elim
  case string =>
    have := kdOf_string h2; cases this
    cases x <;> simp only at h <;> try exact h.elim
    rename_i s
    cases mx <;> simp only at h <;> try exact h.elim
    obtain ⟨l, h4, hl⟩ := bnd_spec h
    clear h
    obtain ⟨hh, h5, hh2⟩ := bnd_spec h4
    clear h4
    obtain ⟨hb, hK⟩ := h5
    refine ⟨_, hK, fun w => ?_⟩
    have hr := sliceBounds_run (P := P) (isS := false) (len := s.size) (cap := s.size) (lo := lo) (hi := hi) (mx := none) (l := l) (h := hh) (m := s.size) hl hh2 (.inl ⟨rfl, rfl⟩) (by simp) ⟨hb.1, hb.2.1, hb.2.2, by omega⟩ w
    unfold Instr.sliceAt
    rw [Sem.run_bind, run_und hu]
    simp only [Result.andThen]
    unfold Instr.slice
    rw [Sem.run_bind, run_und hu]
    simp only [Result.andThen, Option.isSome_none, Bool.false_eq_true, if_false]
    rw [Sem.run_bind, hr]; rfl
  case slice e =>
    have := kdOf_slice h2; cases this
    obtain ⟨te, hte, h4⟩ := tyW_spec h
    clear h
    obtain ⟨info2, d2, g1, gu, g2, g3, _⟩ := hT.info hte
    cases x <;> simp only at h4 <;> try exact h4.elim
    rename_i a len cap
    obtain ⟨l, h5, hl⟩ := bnd_spec h4
    clear h4
    obtain ⟨hh, h6, hh2⟩ := bnd_spec h5
    clear h5
    obtain ⟨m, h7, hm⟩ := bnd_spec h6
    clear h6
    obtain ⟨hb, hK⟩ := h7
    refine ⟨_, hK, fun w => ?_⟩
    have hr := sliceBounds_run (P := P) (isS := true) (len := len) (cap := cap) hl hh2 hm hx' hb w
    unfold Instr.sliceAt
    rw [Sem.run_bind, run_und hu]
    simp only [Result.andThen]
    unfold Instr.slice
    rw [Sem.run_bind, run_und hu]
    simp only [Result.andThen]
    rw [Sem.run_bind, hr]
    simp only [Result.andThen]
    rw [Sem.run_bind, run_size g1, g3]
    rfl

theorem max_run (ty : TypeId) (ts : Array TypeId) {x : Value} {k : IntKind} {K : Value → Prop} : ∀ {vs : List Value} {a : Int}, x = .int k a → maxW vs k a K → ∃ v, K v ∧ ∀ w : World, (vs.foldlM Builtin.max2 x : Sem Value).run P w = .ok v w
  | [], a, hx, h => ⟨_, h, fun w => by subst hx; rfl⟩
  | v :: vs, a, hx, h => by
    obtain ⟨k', b, hv, h1⟩ := onInt_spec h
    clear h; subst hv hx
    obtain ⟨v, hK, hr⟩ := max_run ty ts (vs := vs) (x := .int k (if b > a then b else a)) rfl h1
    exact ⟨v, hK, fun w => by rw [List.foldlM_cons, Sem.run_bind]; exact hr w⟩
termination_by vs => vs.length

def min2 : Value → Value → Sem Value := Builtin.min2
theorem min_run (ty : TypeId) (ts : Array TypeId) {x : Value} {k : IntKind} {K : Value → Prop} : ∀ {vs : List Value} {a : Int}, x = .int k a → minW vs k a K → ∃ v, K v ∧ ∀ w : World, (vs.foldlM Builtin.min2 x : Sem Value).run P w = .ok v w
  | [], a, hx, h => ⟨_, h, fun w => by subst hx; rfl⟩
  | v :: vs, a, hx, h => by
    obtain ⟨k', b, hv, h1⟩ := onInt_spec h
    clear h; subst hv hx
    obtain ⟨v, hK, hr⟩ := min_run ty ts (vs := vs) (x := .int k (if b < a then b else a)) rfl h1
    exact ⟨v, hK, fun w => by rw [List.foldlM_cons, Sem.run_bind]; exact hr w⟩
termination_by vs => vs.length

/-! ### Maps -/
theorem findNow_like {d : TypeDesc} {k : Value} (hk : kdKey (kdOf (some d)) k = true) : ∀ (es : List MapEntry) (i : Nat), keysLike k es → ∃ r, Instr.findNow d k es i = some r ∧ r.map (·.2) = mfind k es ∧ (∀ j v, r = some (j, v) → i ≤ j ∧ ∃ e, es[j - i]? = some e ∧ keyEq k e.key = true ∧ e.val = v)
  | [], i, _ => ⟨none, rfl, rfl, by simp⟩
  | e :: es, i, h => by
    have he := h e (by simp)
    obtain ⟨r, h1, h2, h3⟩ := findNow_like hk es (i + 1) (fun e' he' => h e' (by simp [he']))
    have hn : Instr.sameNow d k e.key = some (keyEq k e.key) := by
      cases k <;> cases hek : e.key <;> simp only [likeKey, hek] at he <;> try exact he.elim
      · cases d <;> simp [kdOf, kdKey] at hk
        subst he
        simp [Instr.sameNow, keyEq]
      · cases d <;> simp [kdOf, kdKey] at hk
        simp [Instr.sameNow, keyEq]
    unfold Instr.findNow mfind
    rw [hn]
    cases hb : keyEq k e.key with
    | true => exact ⟨_, rfl, rfl, fun j v hj => by cases hj; exact ⟨Nat.le_refl _, e, by simp, hb, rfl⟩⟩
    | false => exact ⟨r, h1, h2, fun j v hj => by
        obtain ⟨a, e', b, c⟩ := h3 j v hj
        refine ⟨by omega, e', ?_, c⟩
        rw [show j - i = (j - (i + 1)) + 1 by omega]; simpa using b⟩

theorem checkKey_run {t : TypeId} {d : TypeDesc} (hu : P.underlying t = some d) {k : Value} (hk : kdKey (kdOf (some d)) k = true) (b : Bool) (w : World) : (Instr.checkKey b 10000 t k).run P w = .ok () w := by
  show (Instr.checkKey b (9999 + 1) t k).run P w = _
  rw [Instr.checkKey, Sem.run_bind, run_und hu]
  cases d <;> (try simp [kdOf, kdKey] at hk) <;> (cases k <;> (try simp [kdKey] at hk)) <;> rfl

theorem zeroValue_run (hT : TabOk P T) {t : TypeId} {i : TI} (ht : T t = some i) (w : World) : (zeroValue t).run P w = .ok i.zero w := by
  obtain ⟨info, d, h1, hu, h2, h3, h4, h5⟩ := hT.info ht
  unfold zeroValue
  rw [Sem.run_bind, run_ti h1]
  simp only [Result.andThen, h5]
  rfl

theorem findKey_like {t : TypeId} {d : TypeDesc} (hu : P.underlying t = some d) {k : Value} (hk : kdKey (kdOf (some d)) k = true) {es : List MapEntry} (hl : keysLike k es) :
    ∃ r, (∀ w, (Instr.findKey t k es).run P w = .ok r w) ∧ r.map (·.2) = mfind k es ∧ (∀ j v, r = some (j, v) → ∃ e, es[j]? = some e ∧ keyEq k e.key = true ∧ e.val = v) := by
  obtain ⟨r, h1, h2, h3⟩ := findNow_like hk es 0 hl
  refine ⟨r, fun w => ?_, h2, fun j v h => by simpa using (h3 j v h).2⟩
  unfold Instr.findKey
  rw [Sem.run_bind, run_und hu]
  simp only [Result.andThen, h1]
  rfl

theorem look_run (hT : TabOk P T) {t : TypeId} {x k : Value} {ok : Bool} {w : World} {K : Value → Prop} (h00 : lookW T t x k ok w K) : ∃ v, K v ∧ ∀ w', w'.heap = w.heap → (Instr.lookup t x k ok).run P w' = .ok v w' := by
  obtain ⟨r, hx, h0⟩ := onMap_spec h00
  clear h00; subst hx
  obtain ⟨ti, ht, h⟩ := tyW_spec h0
  clear h0
  obtain ⟨info, d, h1, hu, h2, h3, _⟩ := hT.info ht
  cases hk : ti.kd <;> rw [hk] at h h2 <;> simp only at h <;> try exact h.elim
  rename_i kt et
  have := kdOf_map h2; cases this
  obtain ⟨tk, htk, h4⟩ := tyW_spec h
  clear h
  obtain ⟨te, hte, h5⟩ := tyW_spec h4
  clear h4
  obtain ⟨hkd, es, hm, hl, h6⟩ := bW_spec h5
  clear h5
  obtain ⟨v, b, hf, hz, hK⟩ := Sh.ex_spec h6
  clear h6
  obtain ⟨infok, dk, k1, ku, k2, _⟩ := hT.info htk
  rw [← k2] at hkd
  obtain ⟨q, hq, hq2, _⟩ := findKey_like ku hkd hl
  refine ⟨_, hK, fun w' hw => ?_⟩
  have hz' := zeroValue_run hT hte w'
  unfold Instr.lookup
  rw [Sem.run_bind, run_und hu]
  simp only [Result.andThen]
  have tail : ∀ a : Array MapEntry, a.toList = es → ((Instr.checkKey a.isEmpty 10000 kt k).run P w').andThen (fun _ w1 => ((Instr.findKey kt k a.toList).run P w1).andThen fun r w2 => Sem.run P (match r with
      | some (_, v) => (do
        let __x ← pure (v, true)
        pure (if ok = true then Value.tuple #[__x.fst, Value.bool __x.snd] else __x.fst) : Sem Value)
      | none => do
        let __do_lift ← zeroValue et
        let __x ← pure (__do_lift, false)
        pure (if ok = true then Value.tuple #[__x.fst, Value.bool __x.snd] else __x.fst)) w2) = .ok (okV ok v b) w' := by
    intro a ha
    rw [checkKey_run ku hkd]
    simp only [Result.andThen]
    rw [ha, hq]
    simp only [Result.andThen]
    rw [← hq2] at hf
    cases q with
    | none =>
      simp only [Option.map_none] at hf
      cases b with
      | true => simp at hf
      | false =>
        have := hz rfl; subst this
        simp only [Sem.run_bind, hz', Result.andThen, Sem.run_pure]
        cases ok <;> rfl
    | some p =>
      simp only [Option.map_some] at hf
      cases b with
      | false => simp at hf
      | true =>
        simp only [if_true, Option.some.injEq] at hf
        subst hf
        simp only [Sem.run_bind, Result.andThen, Sem.run_pure]
        cases ok <;> rfl
  cases r with
  | none =>
    simp only [mapAt] at hm
    subst hm
    simp only [Sem.run_bind, Sem.run_pure, Result.andThen]
    exact tail #[] rfl
  | some b =>
    obtain ⟨a, clk, hb, ha⟩ := hm
    have hg : (getObj b).run P w' = .ok (.map a clk) w' := by simp [getObj, Sem.run, hw, hb]
    simp only [Sem.run_bind, hg, Result.andThen, Sem.run_pure]
    exact tail a ha

/-- EVERY READING OPERATION. -/
theorem vcQ_run (hT : TabOk P T) {o : Oper} {ρ : Operand → Value} {w : World} {K : Value → Prop} (h : vcQ P T o ρ w K) : ∃ v, K v ∧ Yields1 P (execOp ρ o) w v := by
  obtain ⟨dst, op, type, pos, after, guard⟩ := o
  cases op <;> simp only [vcQ] at h <;> try exact h.elim
  case move x => exact ⟨_, h, yields_pure rfl⟩
  case assign x => exact ⟨_, h, yields_pure rfl⟩
  case pick c a b =>
    obtain ⟨v, hc, h1⟩ := onBool_spec h
    cases v with
    | true => exact ⟨_, h1, fun w' _ => by simp [execOp, hc, asBool]⟩
    | false => exact ⟨_, h1, fun w' _ => by simp [execOp, hc, asBool]⟩
  case extract t i =>
    obtain ⟨l, hl, h1⟩ := onTup_spec h
    obtain ⟨v, hv, hK⟩ := lgetW_spec h1
    refine ⟨v, hK, yields_val fun w' _ => ?_⟩
    have : (⟨l⟩ : Array Value)[i]? = some v := by rw [← Array.getElem?_toList]; exact hv
    simp [Instr.extract, hl, this]
  case nilCheck x =>
    obtain ⟨p, hp, h1⟩ := onPtr_spec h
    obtain ⟨a, rfl, hK⟩ := ptrW_spec h1
    exact ⟨_, hK, fun w' _ => by simp [execOp, hp]⟩
  case load t x =>
    obtain ⟨p, hp, h1⟩ := onPtr_spec h
    obtain ⟨a, rfl, h2⟩ := ptrW_spec h1
    obtain ⟨i, hi, h3⟩ := tyW_spec h2
    obtain ⟨v, hK, hr⟩ := loadW_run hT hi h3
    refine ⟨v, hK, yields_val fun w' hw => ?_⟩
    simp [Instr.loadAt, Instr.sureAddr, hp, hr w' hw]
  case fieldAddr s x f =>
    obtain ⟨p, hp, h1⟩ := onPtr_spec h
    obtain ⟨a, rfl, h2⟩ := ptrW_spec h1
    obtain ⟨i, hi, h3⟩ := tyW_spec h2
    obtain ⟨fs, hfs, h4⟩ := onStruct_spec h3
    obtain ⟨off, ft, hf, h5⟩ := nthF_spec h4
    obtain ⟨fi, hfi, h6⟩ := tyW_spec h5
    obtain ⟨hz, hK⟩ := bW_spec h6
    exact ⟨_, hK, yields_val fun w' _ => by rw [hp]; exact fieldAt_run hT hi hfs hf hfi hz a w'⟩
  case field s x f =>
    obtain ⟨l, hl, h1⟩ := onAgg_spec h
    obtain ⟨i, hi, h3⟩ := tyW_spec h1
    obtain ⟨fs, hfs, h4⟩ := onStruct_spec h3
    obtain ⟨off, ft, hf, h5⟩ := nthF_spec h4
    obtain ⟨fi, hfi, h6⟩ := tyW_spec h5
    obtain ⟨v, hK, hr⟩ := part_run hT hfi h6
    refine ⟨v, hK, yields_val fun w' _ => ?_⟩
    obtain ⟨info, d, e1, hu, e2, e3, _⟩ := hT.info hi
    obtain ⟨fa, hfa, hfm⟩ := kdOf_struct (e2.trans hfs)
    cases hfa
    rw [← hfm, List.getElem?_map] at hf
    cases hfd : fa.toList[f]? with
    | none => rw [hfd] at hf; cases hf
    | some fd =>
      rw [hfd] at hf
      simp only [Option.map_some, Option.some.injEq, Prod.mk.injEq] at hf
      have hfd' : fa[f]? = some fd := by rw [← Array.getElem?_toList]; exact hfd
      unfold Instr.field
      rw [Sem.run_bind, run_und hu]
      simp only [Result.andThen, hfd', hl]
      rw [Sem.run_bind]
      simp only [asAgg, Sem.run_pure, Result.andThen]
      rw [hf.1, hf.2]; exact hr w'
  case indexAddr t x i => obtain ⟨v, hK, hr⟩ := idxAddr_run hT h; exact ⟨v, hK, yields_val fun w' _ => hr w'⟩
  case index t x i => obtain ⟨v, hK, hr⟩ := idx_run hT h; exact ⟨v, hK, yields_val fun w' _ => hr w'⟩
  case slice t x lo hi mx => obtain ⟨v, hK, hr⟩ := slice_run hT h; exact ⟨v, hK, yields_val fun w' _ => hr w'⟩
  case binOp op t x y _ => obtain ⟨v, hK, hr⟩ := bin_run hT h; exact ⟨v, hK, yields_val fun w' hw => hr x y w' hw⟩
  case unOp op _ x => obtain ⟨v, hK, hr⟩ := un_run h; exact ⟨v, hK, yields_val fun w' _ => hr w'⟩
  case convert s d x => obtain ⟨v, hK, hr⟩ := conv_run hT h; exact ⟨v, hK, yields_val fun w' _ => hr w'⟩
  case makeFunc fn first captured =>
    refine ⟨_, h, yields_val fun w' _ => ?_⟩
    simp only [Instr.makeFunc, Sem.run_pure]
    congr 2 <;> (apply Array.toList_inj.1; simp)
  case lookup t x k ok => obtain ⟨v, hK, hr⟩ := look_run hT h; exact ⟨v, hK, yields_val fun w' hw => hr w' hw⟩
  case call c =>
    obtain ⟨callee, args, argTypes⟩ := c
    cases callee <;> simp only at h <;> try exact h.elim
    rename_i b
    have hres : ∀ w' : World, (execOp ρ { dst, op := .call { callee := .builtin b, args, argTypes }, type, pos, after, guard }).run P w' =
        (builtin b argTypes type (args.map fun | .const _ => true | _ => false) (args.map ρ)).run P w' := by
      intro w'
      simp [execOp, resolve, invoke]
      rfl
    have hargs : ∀ l, args.toList = l → args.map ρ = ⟨l.map ρ⟩ := by
      intro l hl; apply Array.toList_inj.1; simp [← hl]
    have hat : ∀ l, argTypes.toList = l → argTypes = ⟨l⟩ := by
      intro l hl; apply Array.toList_inj.1; simp [← hl]
    cases b <;> simp only at h <;> try exact h.elim
    case len =>
      split at h <;> try exact h.elim
      rename_i x t e1 e2
      obtain ⟨v, hK, hr⟩ := len_run (ty := type) hT h
      refine ⟨v, hK, fun w' hw => ?_⟩
      rw [hres, hargs _ e1, hat _ e2]
      show (do pure (.value (← Builtin.len_ #[t] type #[ρ x])) : Sem Next).run P w' = _
      rw [Sem.run_bind, hr w' hw]; rfl
    case cap =>
      split at h <;> try exact h.elim
      rename_i x t e1 e2
      obtain ⟨v, hK, hr⟩ := cap_run (ty := type) hT h
      refine ⟨v, hK, fun w' _ => ?_⟩
      rw [hres, hargs _ e1, hat _ e2]
      show (do pure (.value (← Builtin.cap_ #[t] type #[ρ x])) : Sem Next).run P w' = _
      rw [Sem.run_bind, hr w']; rfl
    case max =>
      split at h <;> try exact h.elim
      rename_i x l e1
      obtain ⟨k, a, hx, h1⟩ := onInt_spec h
      obtain ⟨v, hK, hr⟩ := max_run type argTypes hx h1
      refine ⟨v, hK, fun w' _ => ?_⟩
      rw [hres, hargs _ e1]
      show (do pure (.value (← Builtin.max_ argTypes type ⟨ρ x :: l.map ρ⟩)) : Sem Next).run P w' = _
      rw [Sem.run_bind, show Builtin.max_ argTypes type ⟨ρ x :: l.map ρ⟩ = (l.map ρ).foldlM Builtin.max2 (ρ x) from rfl, hr w']; rfl
    case min =>
      split at h <;> try exact h.elim
      rename_i x l e1
      obtain ⟨k, a, hx, h1⟩ := onInt_spec h
      obtain ⟨v, hK, hr⟩ := min_run type argTypes hx h1
      refine ⟨v, hK, fun w' _ => ?_⟩
      rw [hres, hargs _ e1]
      show (do pure (.value (← Builtin.min_ argTypes type ⟨ρ x :: l.map ρ⟩)) : Sem Next).run P w' = _
      rw [Sem.run_bind, show Builtin.min_ argTypes type ⟨ρ x :: l.map ρ⟩ = (l.map ρ).foldlM Builtin.min2 (ρ x) from rfl, hr w']; rfl

end
end Go.Proofs.Ytgepmlgkeljelaa.Vc
