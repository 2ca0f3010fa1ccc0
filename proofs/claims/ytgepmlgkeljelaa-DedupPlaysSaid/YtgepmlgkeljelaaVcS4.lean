/- The conditions are enough: every operation. -/
import Derived.Test.YtgepmlgkeljelaaVcS3
namespace Go.Proofs.Ytgepmlgkeljelaa.Vc
open Go

section
variable {P : Program} {T : TypeId → Option TI}

theorem cellsW_spec (hT : TabOk P T) {t : TypeId} {i : TI} (ht : T t = some i) {v : Value} {X : List Value → Prop} (h : cellsW i v X) : ∃ cs, v.cells = ⟨cs⟩ ∧ cs.length = i.size ∧ X cs := by
  unfold cellsW at h
  cases hs : i.sh with
  | tup ps => rw [hs] at h; exact h.elim
  | pt p =>
    cases p with
    | one c =>
      rw [hs] at h
      obtain ⟨h1, _, h3⟩ := oneW_spec h
      refine ⟨[v], ?_, by rw [(fits_one hT ht hs).2.1]; rfl, h3⟩
      cases v <;> first | rfl | exact absurd rfl (h1 _)
    | agg cs =>
      rw [hs] at h
      obtain ⟨l, rfl, h4⟩ := onAgg_spec h
      obtain ⟨h5, h6⟩ := bW_spec h4
      exact ⟨l, rfl, Nat.eq_of_beq_eq_true h5, h6⟩

theorem store_run {a : Addr} {v : Value} {w : World} (h1 : ∃ u, w.cell? a = some u) (h2 : w.frozen? a = false) (h3 : ∀ l, v ≠ .agg l) (h4 : ∀ l, v ≠ .tuple l) : (store a v).run P w = .ok () (w.setCell a v) := by
  obtain ⟨u, hu⟩ := h1
  cases v <;> first
    | exact absurd rfl (h3 _)
    | exact absurd rfl (h4 _)
    | simp [store, Sem.run, hu, h2]

theorem storeW_run : ∀ {vs : List Value} {a : Addr} {i : Nat} {K : World → Prop} {w : World}, storeW vs a i K w → ∃ w', (storeCells a vs i).run P w = .ok () w' ∧ K w'
  | [], _, _, _, w, h => ⟨w, rfl, h⟩
  | v :: vs, a, i, K, w, h => by
    obtain ⟨h1, h2, h3⟩ := h
    obtain ⟨h4, h5, h6⟩ := oneW_spec h3
    obtain ⟨w', h7, h8⟩ := storeW_run h6
    refine ⟨w', ?_, h8⟩
    unfold storeCells
    rw [Sem.run_bind, store_run h1 h2 h4 h5]
    exact h7

theorem storeAt_run (hT : TabOk P T) {t : TypeId} {i : TI} (ht : T t = some i) {v : Value} {a : Addr} {K : World → Prop} {w : World} (h : cellsW i v fun cs => storeW cs a 0 K w) :
    ∃ w', (Instr.storeAt t (.pointer (some a)) v).run P w = .ok () w' ∧ K w' := by
  obtain ⟨info, d, h1, hu, h2, h3, _⟩ := hT.info ht
  obtain ⟨cs, hc, hl, hs⟩ := cellsW_spec hT ht h
  obtain ⟨w', hr, hK⟩ := storeW_run (P := P) hs
  refine ⟨w', ?_, hK⟩
  unfold Instr.storeAt Instr.sureAddr
  rw [Sem.run_bind]
  simp only [Sem.run_pure, Result.andThen]
  unfold storeVar
  rw [Sem.run_bind, run_size h1, h3]
  simp only [Result.andThen, hc]
  rw [if_neg (by simp [hl])]
  exact hr

/-! ### build -/
theorem foldl_put (off : Nat) : ∀ (vs : List Value) (k : Nat) (cells : List Value),
    (vs.zipIdx k).foldl (fun cs (p : Value × Nat) => cs.setIfInBounds (off + p.2) p.1) (⟨cells⟩ : Array Value) = ⟨putL cells (off + k) vs⟩
  | [], _, _ => rfl
  | v :: vs, k, cells => by
    rw [List.zipIdx_cons, List.foldl_cons]
    have : (⟨cells⟩ : Array Value).setIfInBounds (off + k) v = ⟨cells.set (off + k) v⟩ := by apply Array.toList_inj.1; simp
    simp only [this]
    rw [foldl_put off vs (k + 1)]
    rfl

theorem fill_step (cells vs : List Value) (off : Nat) : (⟨vs⟩ : Array Value).zipIdx.foldl (fun cs (p : Value × Nat) => cs.setIfInBounds (off + p.2) p.1) (⟨cells⟩ : Array Value) = ⟨putL cells off vs⟩ := by
  rw [← Array.foldl_toList]
  have : (⟨vs⟩ : Array Value).zipIdx.toList = vs.zipIdx 0 := by simp
  rw [this]
  exact foldl_put off vs 0 cells

theorem placeW_spec {k : KD} {i : Nat} {X : Nat → TI → Prop} (h : placeW T k i X) : ∃ off t ti, T t = some ti ∧ X off ti ∧
    ((∃ fs, k = .struct fs ∧ fs[i]? = some (off, t)) ∨ (∃ n, k = .array n t ∧ off = i * ti.size)) := by
  cases k <;> simp only [placeW] at h <;> try exact h.elim
  case struct fs =>
    obtain ⟨off, ft, hf, h1⟩ := nthF_spec h
    obtain ⟨fi, hfi, h2⟩ := tyW_spec h1
    exact ⟨off, ft, fi, hfi, h2, .inl ⟨fs, rfl, hf⟩⟩
  case array n e =>
    obtain ⟨te, hte, h2⟩ := tyW_spec h
    exact ⟨_, e, te, hte, h2, .inr ⟨n, rfl, rfl⟩⟩

theorem fillW_spec (hT : TabOk P T) {k : KD} {pl : Nat → Option (Nat × Nat)} (hpl : ∀ i off t ti, T t = some ti → ((∃ fs, k = .struct fs ∧ fs[i]? = some (off, t)) ∨ (∃ n, k = .array n t ∧ off = i * ti.size)) → pl i = some (off, ti.size)) :
    ∀ {parts : List (Nat × Value)} {cells : List Value} {X : List Value → Prop}, fillW T k cells parts X → ∃ l, Instr.fill pl ⟨cells⟩ parts = some ⟨l⟩ ∧ X l
  | [], cells, X, h => ⟨cells, rfl, h⟩
  | (i, v) :: r, cells, X, h => by
    obtain ⟨off, t, ti, ht, h1, h2⟩ := placeW_spec h
    obtain ⟨cs, hc, hl, h3⟩ := cellsW_spec hT ht h1
    obtain ⟨h4, h5⟩ := bW_spec h3
    obtain ⟨l, h6, h7⟩ := fillW_spec hT hpl h5
    refine ⟨l, ?_, h7⟩
    have hle := Nat.le_of_ble_eq_true h4
    unfold Instr.fill
    rw [hpl i off t ti ht h2]
    simp only [hc]
    rw [if_neg (by simp [hl]; rw [← hl]; exact hle), fill_step]
    exact h6

theorem tysIn_mapM (hT : TabOk P T) : ∀ (fs : List Field), tysIn T (fs.map fun f => (f.offset, f.type)) = true →
    ∃ places : List (Nat × Nat), fs.mapM (fun f => (P.info? f.type).map fun i => (f.offset, i.size)) = some places ∧ ∀ (i off : Nat) (t : TypeId) (ti : TI), T t = some ti → (fs.map fun f => (f.offset, f.type))[i]? = some (off, t) → places[i]? = some (off, ti.size)
  | [], _ => ⟨[], rfl, fun i off t ti _ h => by simp at h⟩
  | f :: fs, h => by
    simp only [List.map_cons, tysIn] at h
    cases hf : T f.type with
    | none => rw [hf] at h; cases h
    | some fi =>
      rw [hf] at h
      obtain ⟨places, h1, h2⟩ := tysIn_mapM hT fs h
      obtain ⟨info, d, e1, hu, e2, e3, _⟩ := hT.info hf
      refine ⟨(f.offset, info.size) :: places, by simp [e1, h1], fun i off t ti ht hi => ?_⟩
      cases i with
      | zero =>
        simp only [List.map_cons, List.getElem?_cons_zero, Option.some.injEq, Prod.mk.injEq] at hi
        obtain ⟨rfl, rfl⟩ := hi
        rw [hf] at ht; cases ht
        simp [e3]
      | succ i => simpa using h2 i off t ti ht (by simpa using hi)

theorem buildW_run (hT : TabOk P T) {t : TypeId} {parts : List (Nat × Value)} {K : Value → Prop} (h : buildW T t parts K) : ∃ v, K v ∧ ∀ w : World, (Instr.build t ⟨parts⟩).run P w = .ok v w := by
  obtain ⟨i, ht, h1⟩ := tyW_spec h
  clear h
  obtain ⟨h2, h3⟩ := bW_spec h1
  clear h1
  obtain ⟨info, d, e1, hu, e2, e3, e4, e5⟩ := hT.info ht
  cases hk : i.kd <;> rw [hk] at h2 h3 e2 <;> simp only [partsIn] at h2 <;> try (cases h2; done)
  case struct fs =>
    obtain ⟨fa, hfa, hfm⟩ := kdOf_struct e2
    cases hfa
    rw [← hfm] at h2 h3
    obtain ⟨places, h4, h5⟩ := tysIn_mapM hT _ h2
    obtain ⟨l, h6, h7⟩ := fillW_spec (pl := (places.toArray[·]?)) hT (fun i off t ti ht hh => by
      rcases hh with ⟨fs, hfs, hfi⟩ | ⟨n, hn, _⟩
      · cases hfs; simpa using h5 i off t ti ht hfi
      · cases hn) h3
    refine ⟨_, h7, fun w => run_build w t ⟨parts⟩ ⟨l⟩ ?_⟩
    unfold Program.built
    simp only [e1, hu, e5, h4]
    rw [cellsOf_eq]; exact h6
  case array n e =>
    have := kdOf_array e2; cases this
    cases he : T e with
    | none => rw [he] at h2; cases h2
    | some te =>
      obtain ⟨info2, d2, g1, gu, g2, g3, _⟩ := hT.info he
      obtain ⟨l, h6, h7⟩ := fillW_spec (pl := fun i => some (i * info2.size, info2.size)) hT (fun i off t ti ht hh => by
        rcases hh with ⟨fs, hfs, hfi⟩ | ⟨n, hn, hoff⟩
        · cases hfs
        · cases hn
          rw [he] at ht; cases ht
          rw [hoff, g3]) h3
      refine ⟨_, h7, fun w => run_build w t ⟨parts⟩ ⟨l⟩ ?_⟩
      unfold Program.built
      simp only [e1, hu, e5, g1]
      rw [cellsOf_eq]; exact h6

/-! ### Every operation -/
/-- How an operation may end. -/
def Ends (P : Program) (s : Sem Next) (w : World) (K : Value → World → Prop) : Prop :=
  (∃ v w', s.run P w = .ok (.value v) w' ∧ K v w') ∨ (∃ w', s.run P w = .ok .skip w' ∧ K undef w') ∨
  (∃ g args, s.run P w = .ok (.enter g args) w ∧ Calls P g args w fun e w' => ∃ v, e = .returned v ∧ K v w') ∨
  (∃ l f tmps assign body, s.run P w = .ok (.round l f tmps assign body) w ∧ RoundIn (anyF none) 1000 P l f tmps assign body w fun e w' => ∃ v, e = .returned v ∧ K v w')

theorem ends_val {s : Sem Value} {w w' : World} {v : Value} {K : Value → World → Prop} (h : s.run P w = .ok v w') (hK : K v w') : Ends P (do pure (.value (← s))) w K :=
  .inl ⟨v, w', by rw [Sem.run_bind, h]; rfl, hK⟩
theorem ends_unit {s : Sem Unit} {w w' : World} {K : Value → World → Prop} (h : s.run P w = .ok () w') (hK : K undef w') : Ends P (do s; pure .skip) w K :=
  .inr (.inl ⟨w', by rw [Sem.run_bind, h]; rfl, hK⟩)

theorem arr_map {α β : Type} (f : α → β) (a : Array α) : a.map f = ⟨a.toList.map f⟩ := by apply Array.toList_inj.1; simp

theorem vcCall_run (hT : TabOk P T) {B : FuncId → Bool} (hB : ∀ g, B g = true → ∀ args w, (callFunc g args).run P w = .ok (.enter g args) w) {c : Call} {t : TypeId} {ρ : Operand → Value} {w : World} {K : Value → World → Prop}
    (h : vcCall P T B c t ρ w K) : Ends P (do let d ← resolve ρ c t; invoke d.target d.args) w K := by
  obtain ⟨callee, args, argTypes⟩ := c
  have hargs : args.map ρ = ⟨args.toList.map ρ⟩ := arr_map _ _
  have bl : ∀ {b : Builtin} {s : Sem Value}, builtin b argTypes t (args.map fun | .const _ => true | _ => false) (args.map ρ) = (do pure (.value (← s))) →
      (∃ v w', s.run P w = .ok v w' ∧ K v w') → Ends P (do let d ← resolve ρ { callee := .builtin b, args, argTypes } t; invoke d.target d.args) w K := by
    rintro b s hs ⟨v, w', hr, hK⟩
    refine .inl ⟨v, w', ?_, hK⟩
    have : (do let d ← resolve ρ { callee := .builtin b, args, argTypes } t; invoke d.target d.args : Sem Next) = builtin b argTypes t (args.map fun | .const _ => true | _ => false) (args.map ρ) := rfl
    rw [this, hs, Sem.run_bind, hr]; rfl
  have rv : ∀ {s : Sem Value} {i : TI}, runV P s i.sh w K → ∃ v w', s.run P w = .ok v w' ∧ K v w' := by
    intro s i h
    obtain ⟨v, w', h1, h2⟩ := Sh.ex_spec h
    exact ⟨v, w', h1, h2⟩
  cases callee with
  | value f =>
    obtain ⟨i, hi, h1⟩ := tyW_spec h
    unfold callV at h1
    split at h1
    · rename_i g l r hf
      obtain ⟨hg, h3⟩ := bW_spec h1
      refine .inr (.inr (.inl ⟨g, ⟨l ++ args.toList.map ρ ++ r⟩, ?_, h3.mono fun e w' he => Sh.ex_spec he⟩))
      simp only [resolve, hf, Deferred.ofValue]
      rw [Sem.run_bind]
      simp only [Sem.run_pure, Result.andThen, invoke]
      rw [show (⟨l⟩ : Array Value) ++ args.map ρ ++ (⟨r⟩ : Array Value) = ⟨l ++ args.toList.map ρ ++ r⟩ by apply Array.toList_inj.1; simp]
      exact hB g hg _ w
    · rename_i l first r hf
      cases first with
      | cons x xs => exact h1.elim
      | nil =>
        obtain ⟨f', tmps, assign, body, hy, hr⟩ := h1
        refine .inr (.inr (.inr ⟨l, f', tmps, assign, body, ?_, hr.mono fun e w' he => Sh.ex_spec he⟩))
        simp only [resolve, hf, Deferred.ofValue]
        rw [Sem.run_bind]
        simp only [Sem.run_pure, Result.andThen, invoke]
        rw [show (⟨[]⟩ : Array Value) ++ args.map ρ = ⟨args.toList.map ρ⟩ by apply Array.toList_inj.1; simp]
        exact hy
    · exact h1.elim
  | invoke r m => exact h.elim
  | builtin b =>
    cases b <;> simp only [vcCall] at h <;> try exact h.elim
    case append => obtain ⟨i, hi, h1⟩ := tyW_spec h; exact bl (by rw [hargs]; rfl) (rv h1)
    case copy => obtain ⟨i, hi, h1⟩ := tyW_spec h; exact bl (by rw [hargs]; rfl) (rv h1)
    case delete => obtain ⟨i, hi, h1⟩ := tyW_spec h; exact bl (by rw [hargs]; rfl) (rv h1)
    case clear => obtain ⟨i, hi, h1⟩ := tyW_spec h; exact bl (by rw [hargs]; rfl) (rv h1)

theorem newVar_run (t : TypeId) (v : Value) (w : World) : (newVar t v).run P w = .ok ⟨w.heap.size, 0, none⟩ (w.alloc (.cells v.cells t)) := rfl

theorem vcOp_run (hT : TabOk P T) {B : FuncId → Bool} (hB : ∀ g, B g = true → ∀ args w, (callFunc g args).run P w = .ok (.enter g args) w) {o : Oper} {ρ : Operand → Value} {w : World} {K : Value → World → Prop}
    (h : vcOp P T B o ρ w K) : Ends P (execOp ρ o) w K := by
  have qd : vcQ P T o ρ w (fun v => K v w) → Ends P (execOp ρ o) w K := fun h => by
    obtain ⟨v, hK, hy⟩ := vcQ_run hT h
    exact .inl ⟨v, w, hy w rfl, hK⟩
  have rv : ∀ {s : Sem Value} {sh : Sh}, runV P s sh w K → Ends P (do pure (.value (← s))) w K := fun h => by
    obtain ⟨v, w', h1, h2⟩ := Sh.ex_spec h
    exact ends_val h1 h2
  have rv2 : ∀ {s : Sem Value}, (∃ v w', s.run P w = .ok v w' ∧ K v w') → Ends P (do pure (.value (← s))) w K := fun ⟨v, w', h1, h2⟩ => ends_val h1 h2
  have ru : ∀ {s : Sem Unit}, runU P s w K → Ends P (do s; pure .skip) w K := fun ⟨w', h1, h2⟩ => ends_unit h1 h2
  obtain ⟨dst, op, type, pos, after, guard⟩ := o
  cases op <;> simp only [vcOp] at h <;> try exact qd h
  case store t x v =>
    obtain ⟨p, hp, h1⟩ := onPtr_spec h
    obtain ⟨a, rfl, h2⟩ := ptrW_spec h1
    obtain ⟨i, hi, h3⟩ := tyW_spec h2
    obtain ⟨w', hr, hK⟩ := storeAt_run hT hi h3
    exact ends_unit (by rw [hp]; exact hr) hK
  case alloc t =>
    obtain ⟨i, hi, h1⟩ := tyW_spec h
    have hz := zeroValue_run hT hi w
    refine ends_val (v := .pointer (some ⟨w.heap.size, 0, none⟩)) (w' := w.alloc (.cells ⟨cellsOf i.zero⟩ t)) ?_ h1
    unfold Instr.alloc
    rw [Sem.run_bind, hz]
    simp only [Result.andThen]
    rw [Sem.run_bind, newVar_run, cellsOf_eq]
    rfl
  case box t v =>
    obtain ⟨i, hi, h1⟩ := tyW_spec h
    obtain ⟨cs, hc, hl, h2⟩ := cellsW_spec hT hi h1
    refine ends_val (v := .pointer (some ⟨w.heap.size, 0, none⟩)) (w' := w.alloc (.cells ⟨cs⟩ t)) ?_ h2
    unfold Instr.box
    rw [Sem.run_bind, newVar_run, hc]
    rfl
  case build t parts =>
    obtain ⟨v, hK, hr⟩ := buildW_run hT h
    refine ends_val (v := v) (w' := w) ?_ hK
    rw [show (parts.map fun (p : Nat × Operand) => (p.1, ρ p.2)) = ⟨parts.toList.map fun p => (p.1, ρ p.2)⟩ from arr_map _ _]
    exact hr w
  case makeMap t r =>
    cases r <;> simp only at h <;> try exact h.elim
    exact ends_val rfl h
  case makeSlice t l c => obtain ⟨i, hi, h1⟩ := tyW_spec h; exact rv h1
  case buildSlice t n parts =>
    obtain ⟨i, hi, h1⟩ := tyW_spec h
    have := rv h1
    rw [show (⟨parts.toList.map fun p => (p.1, ρ p.2)⟩ : Array (Nat × Value)) = parts.map fun (p : Nat × Operand) => (p.1, ρ p.2) from (arr_map _ _).symm] at this
    exact this
  case mapUpdate t m k x => exact ru h
  case insert t m k x => exact ru h
  case mapEntry t m k => exact rv2 h
  case entryStore t m s x => exact ru h
  case range t x => exact rv h
  case next it isString => exact rv2 h
  case entry it => exact rv2 h
  case makeInterface t x => exact rv h
  case call c =>
    obtain ⟨callee, args, argTypes⟩ := c
    cases callee with
    | value f => exact vcCall_run hT hB h
    | invoke r m => exact qd h
    | builtin b => cases b <;> first | exact vcCall_run hT hB h | exact qd h

end
end Go.Proofs.Ytgepmlgkeljelaa.Vc
