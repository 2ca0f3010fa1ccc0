import Derived.Test.YtgepmlgkeljelaaGreatVcC
import Derived.Test.YtgepmlgkeljelaaGreatVcO
/- The conditions are enough: one operation. -/
namespace Go.Proofs.YtgepmlgkeljelaaGreat.Vc
open Go

section
variable {P : Program} {T : TypeId → Option TI}

/-! ### What the table says of the program's own -/
theorem TabOk.info (hT : TabOk P T) {t : TypeId} {i : TI} (h : T t = some i) :
    ∃ info d, P.info? t = some info ∧ P.underlying t = some d ∧ kdOf (some d) = i.kd ∧ info.size = i.size ∧ info.bytes = i.bytes ∧ info.zero = some i.zero := by
  have h1 := hT.view t i h
  unfold viewT TI.view at h1
  cases hp : P.info? t with
  | none => rw [hp] at h1; cases h1
  | some info =>
    cases hu : P.underlying t with
    | none => rw [hp, hu] at h1; cases h1
    | some d =>
      rw [hp, hu] at h1
      simp only at h1
      cases hz : info.zero with
      | none => rw [hz] at h1; cases h1
      | some z =>
        rw [hz] at h1
        simp only [Option.some.injEq, Prod.mk.injEq] at h1
        exact ⟨info, d, rfl, rfl, h1.1, h1.2.1, h1.2.2.1, by rw [hz, h1.2.2.2]⟩

theorem kdOf_slice {u : Option TypeDesc} {e : TypeId} (h : kdOf u = .slice e) : u = some (.slice e) := by
  rcases u with _ | d
  · cases h
  · cases d <;> simp [kdOf] at h
    rw [h]
theorem kdOf_array {u : Option TypeDesc} {n : Nat} {e : TypeId} (h : kdOf u = .array n e) : u = some (.array n e) := by
  rcases u with _ | d
  · cases h
  · cases d <;> simp [kdOf] at h
    rw [h.1, h.2]
theorem kdOf_struct {u : Option TypeDesc} {fs : List (Nat × TypeId)} (h : kdOf u = .struct fs) : ∃ fa : Array Field, u = some (.struct fa) ∧ fa.toList.map (fun f => (f.offset, f.type)) = fs := by
  rcases u with _ | d
  · cases h
  · cases d <;> simp [kdOf] at h
    exact ⟨_, rfl, h⟩
theorem kdOf_map {u : Option TypeDesc} {k e : TypeId} (h : kdOf u = .map k e) : u = some (.map k e) := by
  rcases u with _ | d
  · cases h
  · cases d <;> simp [kdOf] at h
    rw [h.1, h.2]
theorem kdOf_string {u : Option TypeDesc} (h : kdOf u = .string) : u = some .string := by
  rcases u with _ | d
  · cases h
  · cases d <;> simp [kdOf] at h; rfl
theorem kdOf_bool {u : Option TypeDesc} (h : kdOf u = .bool) : u = some .bool := by
  rcases u with _ | d
  · cases h
  · cases d <;> simp [kdOf] at h; rfl
theorem kdOf_int {u : Option TypeDesc} {k : IntKind} (h : kdOf u = .int k) : u = some (.int k) := by
  rcases u with _ | d
  · cases h
  · cases d <;> simp [kdOf] at h
    rw [h]
theorem kdOf_ptr {u : Option TypeDesc} {e : TypeId} (h : kdOf u = .ptr e) : u = some (.pointer e) := by
  rcases u with _ | d
  · cases h
  · cases d <;> simp [kdOf] at h
    rw [h]

theorem run_und {t : TypeId} {d : TypeDesc} (h : P.underlying t = some d) (w : World) : (underlying t).run P w = .ok d w := run_underlying h w
theorem run_ti {t : TypeId} {info : TypeInfo} (h : P.info? t = some info) (w : World) : (typeInfo t).run P w = .ok info w := by
  simp [typeInfo, program, Sem.run_bind, Sem.run, Result.andThen, h]
theorem run_size {t : TypeId} {info : TypeInfo} (h : P.info? t = some info) (w : World) : (sizeOf t).run P w = .ok info.size w := by
  unfold sizeOf
  rw [Sem.run_bind, run_ti h]; rfl

/-- Is it a struct or an array? -/
def KD.agg : KD → Bool | .struct _ => true | .array _ _ => true | _ => false
theorem run_isAgg (hT : TabOk P T) {t : TypeId} {i : TI} (h : T t = some i) (w : World) : (isAgg t).run P w = .ok i.kd.agg w := by
  obtain ⟨info, d, h1, hu, h2, _⟩ := hT.info h
  unfold isAgg
  rw [Sem.run_bind, run_und hu]
  rw [← h2]
  cases d <;> rfl

theorem cell_heap {w w' : World} (h : w'.heap = w.heap) (a : Addr) : w'.cell? a = w.cell? a := by unfold World.cell?; rw [h]

theorem run_load_cell {a : Addr} {v : Value} {w : World} (h : w.cell? a = some v) : (load a).run P w = .ok v w := by
  simp [load, Sem.run, h]

theorem cellsAt_get : ∀ {vs : List Value} {w : World} {a : Addr} {i : Nat}, cellsAt w a i vs → ∀ j v, vs[j]? = some v → w.cell? (a.add (i + j)) = some v
  | [], _, _, _, _, j, v, h => by simp at h
  | u :: vs, w, a, i, hc, 0, v, h => by simp at h; subst h; exact hc.1
  | u :: vs, w, a, i, hc, j + 1, v, h => by
    have := cellsAt_get (vs := vs) hc.2 j v (by simpa using h)
    rwa [show i + 1 + j = i + (j + 1) by omega] at this

theorem fits_one (hT : TabOk P T) {t : TypeId} {i : TI} (h : T t = some i) {c : CK} (hs : i.sh = .pt (.one c)) : i.kd.agg = false ∧ i.size = 1 ∧ (cellsOf i.zero).length = 1 := by
  have h1 := hT.fits t i h
  unfold TI.fits at h1
  rw [hs] at h1
  simp only [Bool.and_eq_true] at h1
  refine ⟨?_, Nat.eq_of_beq_eq_true h1.1.2, Nat.eq_of_beq_eq_true h1.2⟩
  cases hk : i.kd <;> rw [hk] at h1 <;> first | rfl | simp at h1
theorem fits_agg (hT : TabOk P T) {t : TypeId} {i : TI} (h : T t = some i) {cs : List CK} (hs : i.sh = .pt (.agg cs)) : i.kd.agg = true ∧ cs.length = i.size ∧ (cellsOf i.zero).length = i.size := by
  have h1 := hT.fits t i h
  unfold TI.fits at h1
  rw [hs] at h1
  simp only [Bool.and_eq_true] at h1
  refine ⟨?_, Nat.eq_of_beq_eq_true h1.1.2, Nat.eq_of_beq_eq_true h1.2⟩
  cases hk : i.kd <;> rw [hk] at h1 <;> first | rfl | simp at h1

theorem CK.exs_spec' : ∀ {cs : List CK} {K : List Value → Prop}, CK.exs cs K → ∃ vs, vs.length = cs.length ∧ K vs := CK.exs_spec

theorem loadW_run (hT : TabOk P T) {t : TypeId} {i : TI} (ht : T t = some i) {a : Addr} {w : World} {K : Value → Prop} (h : loadW i.sh a w K) :
    ∃ v, K v ∧ ∀ w', w'.heap = w.heap → (loadVar t a).run P w' = .ok v w' := by
  obtain ⟨info, d, h1, hu, h2, h3, _⟩ := hT.info ht
  cases hs : i.sh with
  | tup ps => rw [hs] at h; exact h.elim
  | pt p =>
    cases p with
    | one c =>
      rw [hs] at h
      obtain ⟨v, hc, hK⟩ := CK.ex_spec h
      refine ⟨v, hK, fun w' hw => ?_⟩
      unfold loadVar
      rw [Sem.run_bind, run_isAgg hT ht, (fits_one hT ht hs).1]
      exact run_load_cell (by rw [cell_heap hw]; exact hc)
    | agg cs =>
      rw [hs] at h
      obtain ⟨vs, hl, hc, hK⟩ := CK.exs_spec h
      refine ⟨_, hK, fun w' hw => ?_⟩
      have hf := fits_agg hT ht hs
      unfold loadVar
      rw [Sem.run_bind, run_isAgg hT ht, hf.1]
      simp only [Result.andThen, if_true]
      rw [Sem.run_bind, run_size h1, h3, ← hf.2.1, ← hl]
      simp only [Result.andThen]
      rw [Sem.run_bind, run_loadCells_list w' a vs (fun j v hj => by have := cellsAt_get hc j v hj; rw [Nat.zero_add] at this; rw [cell_heap hw]; exact this)]
      rfl

/-- What is asked of a reading operation. -/
def Yields1 (P : Program) (s : Sem Next) (w : World) (v : Value) : Prop := ∀ w', w'.heap = w.heap → s.run P w' = .ok (.value v) w'
theorem yields_pure {s : Sem Next} {w : World} {v : Value} (h : s = pure (.value v)) : Yields1 P s w v := fun w' _ => by rw [h]; rfl
/-- 'v s' of execOp. -/
theorem yields_val {s : Sem Value} {w : World} {v : Value} (h : ∀ w', w'.heap = w.heap → s.run P w' = .ok v w') : Yields1 P (do pure (.value (← s))) w v := fun w' hw => by
  rw [Sem.run_bind, h w' hw]; rfl

theorem fieldAt_run (hT : TabOk P T) {s : TypeId} {i : TI} (hs : T s = some i) {fs : List (Nat × TypeId)} (hk : i.kd = .struct fs) {f off : Nat} {ft : TypeId} (hf : fs[f]? = some (off, ft)) {fi : TI} (hft : T ft = some fi)
    (hz : Nat.blt 0 fi.size = true) (a : Addr) (w : World) : (Instr.fieldAt s (.pointer (some a)) f).run P w = .ok (.pointer (some (a.add off))) w := by
  obtain ⟨info, d, h1, hu, h2, h3, _⟩ := hT.info hs
  obtain ⟨fa, hfa, hfm⟩ := kdOf_struct (h2.trans hk)
  cases hfa
  obtain ⟨info2, d2, g1, gu, g2, g3, _⟩ := hT.info hft
  have hz' : info2.size ≠ 0 := by have := Nat.le_of_ble_eq_true hz; omega
  rw [← hfm, List.getElem?_map] at hf
  cases hfd : fa.toList[f]? with
  | none => rw [hfd] at hf; cases hf
  | some fd =>
    rw [hfd] at hf
    simp only [Option.map_some, Option.some.injEq, Prod.mk.injEq] at hf
    have hfd' : fa[f]? = some fd := by rw [← Array.getElem?_toList]; exact hfd
    unfold Instr.fieldAt
    rw [Sem.run_bind, run_und hu]
    simp only [Result.andThen, hfd']
    rw [Sem.run_bind]
    show ((Sem.run P (pure a) w).andThen _) = _
    simp only [Sem.run_pure, Result.andThen]
    rw [Sem.run_bind]
    unfold fieldPlace
    rw [Sem.run_bind, hf.2, run_size g1]
    simp only [Result.andThen, if_neg hz']
    rw [hf.1]; rfl

theorem part_run (hT : TabOk P T) {t : TypeId} {i : TI} (ht : T t = some i) {off : Nat} {l : List Value} {K : Value → Prop} (h : partW i off l K) :
    ∃ v, K v ∧ ∀ w : World, (part t ⟨l⟩ off).run P w = .ok v w := by
  obtain ⟨info, d, h1, hu, h2, h3, _⟩ := hT.info ht
  unfold partW at h
  cases hs : i.sh with
  | tup ps => rw [hs] at h; exact h.elim
  | pt p =>
    cases p with
    | one c =>
      rw [hs] at h
      obtain ⟨v, hv, hK⟩ := lgetW_spec h
      refine ⟨v, hK, fun w => ?_⟩
      unfold part
      rw [Sem.run_bind, run_isAgg hT ht, (fits_one hT ht hs).1]
      simp only [Result.andThen, Bool.false_eq_true, if_false]
      have : (⟨l⟩ : Array Value)[off]? = some v := by rw [← Array.getElem?_toList]; exact hv
      rw [this]; rfl
    | agg cs =>
      rw [hs] at h
      refine ⟨_, h, fun w => ?_⟩
      have hf := fits_agg hT ht hs
      unfold part
      rw [Sem.run_bind, run_isAgg hT ht, hf.1]
      simp only [Result.andThen, if_true]
      rw [Sem.run_bind, run_size h1, h3, ← hf.2.1]
      simp only [Result.andThen, Sem.run_pure]
      congr 2
      apply Array.toList_inj.1
      simp [List.extract_eq_take_drop]

end
end Go.Proofs.YtgepmlgkeljelaaGreat.Vc

/- The conditions are enough: the reading operations. -/
namespace Go.Proofs.YtgepmlgkeljelaaGreat.Vc
open Go

section
variable {P : Program} {T : TypeId → Option TI}

theorem intOp_run {op : BinOp} {k : IntKind} {a b : Int} {K : Value → Prop} (t : TypeId) (h : intOp op k a b K) :
    ∃ v, K v ∧ ∀ w : World, (binOp op t (.int k a) (.int k b)).run P w = .ok v w := by
  cases op <;> simp only [intOp] at h <;> first
    | exact h.elim
    | exact ⟨_, h, fun w => by simp [binOp, Op.intArith, Op.intCmp, Op.intBits, bits]⟩
    | (obtain ⟨hb, hK⟩ := h
       exact ⟨_, hK, fun w => by simp [binOp, Op.intDiv, hb]⟩)

theorem shiftOp_run {op : BinOp} {k k' : IntKind} {a b : Int} {K : Value → Prop} (t : TypeId) (h : shiftOp op k a b K) :
    ∃ v, K v ∧ ∀ w : World, (binOp op t (.int k a) (.int k' b)).run P w = .ok v w := by
  cases op <;> simp only [shiftOp] at h <;> first
    | exact h.elim
    | (obtain ⟨hb, hK⟩ := h
       have hb' : ¬ b < 0 := by omega
       exact ⟨_, hK, fun w => by simp [binOp, Op.shift, hb']⟩)

theorem strOp_run {op : BinOp} {a b : ByteArray} {K : Value → Prop} (t : TypeId) (h : strOp op a b K) :
    ∃ v, K v ∧ ∀ w : World, (binOp op t (.string a) (.string b)).run P w = .ok v w := by
  cases op <;> simp only [strOp] at h <;> first
    | exact h.elim
    | exact ⟨_, h, fun w => by simp [binOp, Op.stringOp]⟩
    | (obtain ⟨hb, hK⟩ := h
       refine ⟨_, hK, fun w => ?_⟩
       have hb' : ¬ (IntKind.i64.max < ((a.size + b.size : Nat) : Int)) := by
         have : IntKind.i64.max = 9223372036854775807 := by decide
         omega
       simp only [binOp, Op.stringOp]
       rw [if_neg hb']; rfl)

theorem eqW_run {op : BinOp} {b : Bool} {K : Value → Prop} (h : eqW op b K) : (op = .eql ∧ K (.bool b)) ∨ (op = .neq ∧ K (.bool (!b))) := by
  cases op <;> simp only [eqW] at h <;> first | exact h.elim | exact .inl ⟨rfl, h⟩ | exact .inr ⟨rfl, h⟩

/-- '==' ¦ '!=' where the comparison itself comes to b. -/
theorem eq_run {op : BinOp} {t : TypeId} {x y : Value} {b : Bool} {K : Value → Prop} (h : eqW op b K) (hx : ∀ k n, x ≠ .int k n) (hx2 : ∀ s, x ≠ .string s) (hx3 : ∀ k n, x ≠ .float k n) (hx4 : ∀ k n m, x ≠ .complex k n m)
    (he : ∀ w : World, (Op.equal t x y).run P w = .ok b w) : ∃ v, K v ∧ ∀ w : World, (binOp op t x y).run P w = .ok v w := by
  rcases eqW_run h with ⟨rfl, hK⟩ | ⟨rfl, hK⟩
  · refine ⟨_, hK, fun w => ?_⟩
    have : binOp .eql t x y = (do pure (.bool (← Op.equal t x y))) := by
      cases x <;> first | rfl | exact absurd rfl (hx _ _) | exact absurd rfl (hx2 _) | exact absurd rfl (hx3 _ _) | exact absurd rfl (hx4 _ _ _)
    rw [this, Sem.run_bind, he]; rfl
  · refine ⟨_, hK, fun w => ?_⟩
    have : binOp .neq t x y = (do pure (.bool (!(← Op.equal t x y)))) := by
      cases x <;> first | rfl | exact absurd rfl (hx _ _) | exact absurd rfl (hx2 _) | exact absurd rfl (hx3 _ _) | exact absurd rfl (hx4 _ _ _)
    rw [this, Sem.run_bind, he]; rfl

theorem guard_none (op : BinOp) (t : TypeId) (xo yo : Operand) {x : Value} (y : Value) (hx : x ≠ .nilIface) (hx2 : ∀ l, x ≠ .agg l) : eqGuard op t xo yo x y = pure () := by
  cases op <;> (cases x <;> first | rfl | exact absurd rfl hx | exact absurd rfl (hx2 _))

theorem eq_bool_run {t : TypeId} (hu : P.underlying t = some .bool) (a b : Bool) (w : World) : (Op.equal t (.bool a) (.bool b)).run P w = .ok (a == b) w := by
  show (Op.equalIn (9999 + 1) t _ _).run P w = _
  rw [Op.equalIn, Sem.run_bind, run_und hu]; rfl
theorem eq_ptr_run {t e : TypeId} (hu : P.underlying t = some (.pointer e)) (a : Option Addr) (w : World) : (Op.equal t (.pointer a) (.pointer none)).run P w = .ok a.isNone w := by
  show (Op.equalIn (9999 + 1) t _ _).run P w = _
  rw [Op.equalIn, Sem.run_bind, run_und hu]; cases a <;> rfl
theorem eq_slice_run {t e : TypeId} (hu : P.underlying t = some (.slice e)) (a : Option Addr) (n c m k : Nat) (w : World) : (Op.equal t (.slice a n c) (.slice none m k)).run P w = .ok a.isNone w := by
  show (Op.equalIn (9999 + 1) t _ _).run P w = _
  rw [Op.equalIn, Sem.run_bind, run_und hu]; cases a <;> rfl
theorem eq_map_run {t k e : TypeId} (hu : P.underlying t = some (.map k e)) (a : Option Nat) (w : World) : (Op.equal t (.map a) (.map none)).run P w = .ok a.isNone w := by
  show (Op.equalIn (9999 + 1) t _ _).run P w = _
  rw [Op.equalIn, Sem.run_bind, run_und hu]; cases a <;> rfl

theorem bin_run (hT : TabOk P T) {op : BinOp} {t : TypeId} {x y : Value} {w : World} {K : Value → Prop} (h0 : binW P T op t x y w K) :
    ∃ v, K v ∧ ∀ (xo yo : Operand) (w' : World), w'.heap = w.heap → (do eqGuard op t xo yo x y; binOp op t x y : Sem Value).run P w' = .ok v w' := by
  obtain ⟨i, ht, h⟩ := tyW_spec h0
  clear h0
  obtain ⟨info, d, h1, hu, h2, h3, _⟩ := hT.info ht
  have step : ∀ {x y : Value}, x ≠ .nilIface → (∀ l, x ≠ .agg l) → (∃ v, K v ∧ ∀ w : World, (binOp op t x y).run P w = .ok v w) →
      ∃ v, K v ∧ ∀ (xo yo : Operand) (w' : World), w'.heap = w.heap → (do eqGuard op t xo yo x y; binOp op t x y : Sem Value).run P w' = .ok v w' := by
    rintro x y a b ⟨v, hK, hv⟩
    exact ⟨v, hK, fun xo yo w' _ => by rw [guard_none op t xo yo y a b, Sem.run_bind]; exact hv w'⟩
  have rn : ∀ {x y : Value}, (∃ b : Bool, eqlRun P op t x y w b ∧ K (.bool b)) → ∃ v, K v ∧ ∀ (xo yo : Operand) (w' : World), w'.heap = w.heap → (do eqGuard op t xo yo x y; binOp op t x y : Sem Value).run P w' = .ok v w' :=
    fun ⟨b, hr, hK⟩ => ⟨_, hK, hr⟩
  cases hk : i.kd <;> rw [hk] at h h2 <;> simp only at h
  case bool =>
    obtain ⟨a, hx, h4⟩ := onBool_spec h
    clear h; subst hx
    obtain ⟨b, hy, h5⟩ := onBool_spec h4
    clear h4; subst hy
    have := kdOf_bool h2; cases this
    exact step (by simp) (by simp) (eq_run h5 (by simp) (by simp) (by simp) (by simp) (eq_bool_run hu _ _))
  case int k0 =>
    obtain ⟨k, a, hx, h4⟩ := onInt_spec h
    clear h; subst hx
    obtain ⟨k', b, hy, h5⟩ := onInt_spec h4
    clear h4; subst hy
    cases hs : isSh op with
    | true => rw [hs] at h5; exact step (by simp) (by simp) (shiftOp_run t h5)
    | false =>
      rw [hs] at h5
      obtain ⟨rfl, h6⟩ := sameK_spec h5
      exact step (by simp) (by simp) (intOp_run t h6)
  case string =>
    cases x <;> simp only at h <;> try exact h.elim
    cases y <;> simp only at h <;> try exact h.elim
    exact step (by simp) (by simp) (strOp_run t h)
  case ptr e =>
    obtain ⟨a, hx, h4⟩ := onPtr_spec h
    clear h; subst hx
    obtain ⟨b, hy, h5⟩ := onPtr_spec h4
    clear h4; subst hy
    have := kdOf_ptr h2; cases this
    cases b with
    | some b => exact rn h5
    | none => exact step (by simp) (by simp) (eq_run h5 (by simp) (by simp) (by simp) (by simp) (eq_ptr_run hu _))
  case slice e =>
    cases x <;> simp only at h <;> try exact h.elim
    cases y <;> simp only at h <;> try exact h.elim
    rename_i b _ _
    have := kdOf_slice h2; cases this
    cases b with
    | some b => exact h.elim
    | none => exact step (by simp) (by simp) (eq_run h (by simp) (by simp) (by simp) (by simp) (eq_slice_run hu _ _ _ _ _))
  case map k e =>
    obtain ⟨a, hx, h4⟩ := onMap_spec h
    clear h; subst hx
    obtain ⟨b, hy, h5⟩ := onMap_spec h4
    clear h4; subst hy
    have := kdOf_map h2; cases this
    cases b with
    | some b => exact h5.elim
    | none => exact step (by simp) (by simp) (eq_run h5 (by simp) (by simp) (by simp) (by simp) (eq_map_run hu _))
  case struct fs => exact rn h
  case array n e => exact rn h
  case func => exact rn h
  case iface => exact rn h

theorem un_run {op : UnOp} {x : Value} {K : Value → Prop} (h : unW op x K) : ∃ v, K v ∧ ∀ w : World, (Op.unary op x).run P w = .ok v w := by
  cases op <;> simp only [unW] at h <;> try exact h.elim
  case neg => obtain ⟨k, n, rfl, h⟩ := onInt_spec h; exact ⟨_, h, fun w => rfl⟩
  case not => obtain ⟨b, rfl, h⟩ := onBool_spec h; exact ⟨_, h, fun w => rfl⟩

theorem conv_run (hT : TabOk P T) {s d : TypeId} {x : Value} {K : Value → Prop} (h : convW T s d x K) : ∃ v, K v ∧ ∀ w : World, (convert s d x).run P w = .ok v w := by
  obtain ⟨i, hs, h⟩ := tyW_spec h
  obtain ⟨j, hd, h⟩ := tyW_spec h
  obtain ⟨_, us, _, hus, _⟩ := hT.info hs
  obtain ⟨_, ud, _, hud, h2, _⟩ := hT.info hd
  cases x <;> simp only at h <;> try exact h.elim
  case int k n =>
    cases hk : j.kd <;> rw [hk] at h h2 <;> simp only at h <;> try exact h.elim
    rename_i k2
    have := kdOf_int h2; cases this
    refine ⟨_, h, fun w => ?_⟩
    unfold convert
    simp only [Sem.run_bind, run_und hus, run_und hud, Result.andThen]
    cases us <;> rfl
  case string s =>
    cases hk : j.kd <;> rw [hk] at h h2 <;> simp only at h <;> try exact h.elim
    have := kdOf_string h2; cases this
    refine ⟨_, h, fun w => ?_⟩
    unfold convert
    simp only [Sem.run_bind, run_und hus, run_und hud, Result.andThen]
    cases us <;> rfl

theorem idxAddr_run (hT : TabOk P T) {t : TypeId} {x i : Value} {K : Value → Prop} (h : idxAddrW T t x i K) : ∃ v, K v ∧ ∀ w : World, (Instr.indexAt t x i).run P w = .ok v w := by
  obtain ⟨k, n, rfl, h⟩ := onInt_spec h
  obtain ⟨ti, ht, h⟩ := tyW_spec h
  obtain ⟨info, d, h1, hu, h2, h3, _⟩ := hT.info ht
  cases hk : ti.kd <;> rw [hk] at h h2 <;> simp only at h <;> try exact h.elim
  case slice e =>
    have := kdOf_slice h2; cases this
    obtain ⟨te, hte, h⟩ := tyW_spec h
    obtain ⟨info2, d2, g1, gu, g2, g3, _⟩ := hT.info hte
    cases x <;> simp only at h <;> try exact h.elim
    rename_i b len cap
    obtain ⟨hn, h⟩ := h
    obtain ⟨a, rfl, h⟩ := ptrW_spec h
    refine ⟨_, h, fun w => ?_⟩
    simp [Instr.indexAt, asIntOf, run_und hu, Result.andThen, hn, run_size g1, g3]
  case array len e =>
    have := kdOf_array h2; cases this
    obtain ⟨te, hte, h⟩ := tyW_spec h
    obtain ⟨info2, d2, g1, gu, g2, g3, _⟩ := hT.info hte
    obtain ⟨p, rfl, h⟩ := onPtr_spec h
    obtain ⟨a, rfl, h⟩ := ptrW_spec h
    obtain ⟨hn, h⟩ := h
    refine ⟨_, h, fun w => ?_⟩
    simp [Instr.indexAt, asIntOf, run_und hu, Result.andThen, Instr.sureAddr, hn, run_size g1, g3]

theorem bt_get {s : ByteArray} {n : Int} (h : 0 ≤ n ∧ n < (s.size : Int)) : s[n.toNat]?.map (fun b => (b.toNat : Int)) = some (bt s n) := by
  have hn : n.toNat < s.size := by omega
  have hd : n.toNat < s.data.size := hn
  rw [getElem?_pos s n.toNat hn]
  simp only [Option.map_some, Option.some.injEq, bt]
  rw [List.getD_eq_getElem?_getD, Array.getElem?_toList, Array.getElem?_eq_getElem hd]
  rfl

theorem idx_run (hT : TabOk P T) {t : TypeId} {x i : Value} {K : Value → Prop} (h0 : idxW T t x i K) : ∃ v, K v ∧ ∀ w : World, (Instr.index t x i).run P w = .ok v w := by
  obtain ⟨k, n, hi, h00⟩ := onInt_spec h0
  clear h0; subst hi
  obtain ⟨ti, ht, h⟩ := tyW_spec h00
  clear h00
  obtain ⟨info, d, h1, hu, h2, h3, _⟩ := hT.info ht
  cases hk : ti.kd <;> rw [hk] at h h2 <;> simp only at h <;> try exact h.elim
  case string =>
    have := kdOf_string h2; cases this
    cases x <;> simp only at h <;> try exact h.elim
    rename_i s
    obtain ⟨hn, h⟩ := h
    refine ⟨_, h, fun w => ?_⟩
    have hb := bt_get hn
    cases hs : s[n.toNat]? with
    | none => rw [hs] at hb; cases hb
    | some b =>
      rw [hs] at hb
      simp only [Option.map_some, Option.some.injEq] at hb
      simp only [Instr.index, asIntOf, Sem.run_bind, Sem.run_pure, run_und hu, Result.andThen, if_pos hn.1, hs, hb]
  case array len e =>
    have := kdOf_array h2; cases this
    obtain ⟨te, hte, h⟩ := tyW_spec h
    obtain ⟨info2, d2, g1, gu, g2, g3, _⟩ := hT.info hte
    obtain ⟨l, rfl, h⟩ := onAgg_spec h
    obtain ⟨hn, h⟩ := h
    cases hs : te.sh with
    | tup ps => rw [hs] at h; exact h.elim
    | pt p =>
      cases p with
      | agg cs => rw [hs] at h; exact h.elim
      | one c =>
        rw [hs] at h
        obtain ⟨v, hv, hK⟩ := CK.ex_spec h
        have ho := fits_one hT hte hs
        refine ⟨v, hK, fun w => ?_⟩
        simp only [Instr.index, asIntOf, Sem.run_bind, Sem.run_pure, run_und hu, Result.andThen, if_pos hn, run_size g1, g3, ho.2.1, Nat.mul_one]
        unfold part
        rw [Sem.run_bind, run_isAgg hT hte, ho.1]
        simp only [Result.andThen, Bool.false_eq_true, if_false]
        have : (⟨l⟩ : Array Value)[n.toNat]? = some v := by rw [← Array.getElem?_toList]; exact hv
        rw [this]; rfl

theorem len_run (hT : TabOk P T) {t ty : TypeId} {x : Value} {w : World} {K : Value → Prop} (h : lenW T t x w K) : ∃ v, K v ∧ ∀ w', w'.heap = w.heap → (Builtin.len_ #[t] ty #[x]).run P w' = .ok v w' := by
  obtain ⟨ti, ht, h⟩ := tyW_spec h
  obtain ⟨info, d, h1, hu, h2, h3, _⟩ := hT.info ht
  cases hk : ti.kd <;> rw [hk] at h h2 <;> simp only at h <;> try exact h.elim
  case string =>
    have := kdOf_string h2; cases this
    cases x <;> simp only at h <;> try exact h.elim
    exact ⟨_, h, fun w' _ => by simp [Builtin.len_, run_und hu, Result.andThen, goInt]⟩
  case slice e =>
    have := kdOf_slice h2; cases this
    cases x <;> simp only at h <;> try exact h.elim
    exact ⟨_, h, fun w' _ => by simp [Builtin.len_, run_und hu, Result.andThen, goInt]⟩
  case array n e =>
    have := kdOf_array h2; cases this
    exact ⟨_, h, fun w' _ => by simp [Builtin.len_, run_und hu, Result.andThen, goInt]⟩
  case map k e =>
    have := kdOf_map h2; cases this
    obtain ⟨r, rfl, h⟩ := onMap_spec h
    obtain ⟨n, hn, hK⟩ := h
    refine ⟨_, hK, fun w' hw => ?_⟩
    cases r with
    | none => simp only [mapLen] at hn; subst hn; simp [Builtin.len_, run_und hu, Result.andThen, goInt]
    | some b =>
      obtain ⟨es, clk, hb, rfl⟩ := hn
      simp [Builtin.len_, run_und hu, Result.andThen, goInt, getObj, Sem.run, hw, hb]

theorem cap_run (hT : TabOk P T) {t ty : TypeId} {x : Value} {K : Value → Prop} (h : capW T t x K) : ∃ v, K v ∧ ∀ w' : World, (Builtin.cap_ #[t] ty #[x]).run P w' = .ok v w' := by
  obtain ⟨ti, ht, h⟩ := tyW_spec h
  obtain ⟨info, d, h1, hu, h2, h3, _⟩ := hT.info ht
  cases hk : ti.kd <;> rw [hk] at h h2 <;> simp only at h <;> try exact h.elim
  have := kdOf_slice h2; cases this
  cases x <;> simp only at h <;> try exact h.elim
  exact ⟨_, h, fun w' => by simp [Builtin.cap_, run_und hu, Result.andThen, goInt]⟩

theorem bnd_spec {v : Option Value} {d : Int} {X : Int → Prop} (h : bndW v d X) : ∃ n, X n ∧ ((v = none ∧ n = d) ∨ ∃ k, v = some (.int k n)) := by
  cases v with
  | none => exact ⟨d, h, .inl ⟨rfl, rfl⟩⟩
  | some v => obtain ⟨k, n, rfl, h⟩ := onInt_spec h; exact ⟨n, h, .inr ⟨k, rfl⟩⟩

theorem sliceBound_ok {k : IntKind} {n : Int} {y : Nat} {c : BoundsCode} (h : 0 ≤ n ∧ n ≤ y) (w : World) : (Instr.sliceBound (.int k n) y c).run P w = .ok n.toNat w := by
  simp [Instr.sliceBound, asIntOf, h]

theorem sliceBounds_run {isS : Bool} {len cap : Nat} {lo hi mx : Option Value} {l h m : Int} (hl : (lo = none ∧ l = 0) ∨ ∃ k, lo = some (.int k l)) (hh : (hi = none ∧ h = len) ∨ ∃ k, hi = some (.int k h))
    (hm : (mx = none ∧ m = cap) ∨ ∃ k, mx = some (.int k m)) (hx : mx ≠ none → hi ≠ none) (hb : 0 ≤ l ∧ l ≤ h ∧ h ≤ m ∧ m ≤ (cap : Int)) (w : World) :
    (Instr.sliceBounds isS len cap lo hi mx).run P w = .ok (l.toNat, h.toNat, m.toNat) w := by
  have e1 : ((h.toNat : Nat) : Int) = h := by omega
  have e2 : ((m.toNat : Nat) : Int) = m := by omega
  rcases hm with ⟨rfl, rfl⟩ | ⟨km, rfl⟩
  · rcases hh with ⟨rfl, rfl⟩ | ⟨kh, rfl⟩ <;> rcases hl with ⟨rfl, rfl⟩ | ⟨kl, rfl⟩
    all_goals (unfold Instr.sliceBounds; simp only [Sem.run_bind, Sem.run_pure, Result.andThen, Option.isSome_none, Bool.false_eq_true, if_false])
    · simp
    · rw [sliceBound_ok (by omega)]; simp
    · rw [sliceBound_ok (by omega)]; simp
    · rw [sliceBound_ok (by omega)]; simp only []; rw [sliceBound_ok (by omega)]; simp
  · rcases hh with ⟨rfl, _⟩ | ⟨kh, rfl⟩
    · exact absurd rfl (hx (by simp))
    · rcases hl with ⟨rfl, rfl⟩ | ⟨kl, rfl⟩
      all_goals (unfold Instr.sliceBounds; simp only [Sem.run_bind, Sem.run_pure, Result.andThen])
      · rw [sliceBound_ok (by omega)]; simp only []; rw [sliceBound_ok (by omega)]; simp
      · rw [sliceBound_ok (by omega)]; simp only []; rw [sliceBound_ok (by omega)]; simp only []; rw [sliceBound_ok (by omega)]

end
end Go.Proofs.YtgepmlgkeljelaaGreat.Vc

/- The conditions are enough: slices, maps, and all reading operations together. -/
namespace Go.Proofs.YtgepmlgkeljelaaGreat.Vc
open Go

section
variable {P : Program} {T : TypeId → Option TI}

theorem slice_run (hT : TabOk P T) {t : TypeId} {x : Value} {lo hi mx : Option Value} {K : Value → Prop} (h00 : sliceW T t x lo hi mx K) : ∃ v, K v ∧ ∀ w : World, (Instr.sliceAt t x lo hi mx).run P w = .ok v w := by
  obtain ⟨hx, h0⟩ := bW_spec h00
  clear h00
  have hx' : mx ≠ none → hi ≠ none := by cases mx <;> cases hi <;> simp_all
  obtain ⟨ti, ht, h⟩ := tyW_spec h0
  clear h0
  obtain ⟨info, d, h1, hu, h2, h3, _⟩ := hT.info ht
  cases hk : ti.kd <;> rw [hk] at h h2 <;> simp only at h <;> try exact h.elim
  case string =>
    have := kdOf_string h2; cases this
    cases x <;> simp only at h <;> try exact h.elim
    rename_i s
    cases mx <;> simp only at h <;> try exact h.elim
    obtain ⟨l, h4, hl⟩ := bnd_spec h
    clear h
    obtain ⟨hh, h5, hh2⟩ := bnd_spec h4
    clear h4
    obtain ⟨hb, hK⟩ := h5
    refine ⟨_, hK, fun w => ?_⟩
    have hr := sliceBounds_run (P := P) (isS := false) (len := s.size) (cap := s.size) (lo := lo) (hi := hi) (mx := none) (l := l) (h := hh) (m := s.size) hl hh2 (.inl ⟨rfl, rfl⟩) (by simp) ⟨hb.1, hb.2.1, hb.2.2, by omega⟩ w
    unfold Instr.sliceAt
    rw [Sem.run_bind, run_und hu]
    simp only [Result.andThen]
    unfold Instr.slice
    rw [Sem.run_bind, run_und hu]
    simp only [Result.andThen, Option.isSome_none, Bool.false_eq_true, if_false]
    rw [Sem.run_bind, hr]; rfl
  case slice e =>
    have := kdOf_slice h2; cases this
    obtain ⟨te, hte, h4⟩ := tyW_spec h
    clear h
    obtain ⟨info2, d2, g1, gu, g2, g3, _⟩ := hT.info hte
    cases x <;> simp only at h4 <;> try exact h4.elim
    rename_i a len cap
    obtain ⟨l, h5, hl⟩ := bnd_spec h4
    clear h4
    obtain ⟨hh, h6, hh2⟩ := bnd_spec h5
    clear h5
    obtain ⟨m, h7, hm⟩ := bnd_spec h6
    clear h6
    obtain ⟨hb, hK⟩ := h7
    refine ⟨_, hK, fun w => ?_⟩
    have hr := sliceBounds_run (P := P) (isS := true) (len := len) (cap := cap) hl hh2 hm hx' hb w
    unfold Instr.sliceAt
    rw [Sem.run_bind, run_und hu]
    simp only [Result.andThen]
    unfold Instr.slice
    rw [Sem.run_bind, run_und hu]
    simp only [Result.andThen]
    rw [Sem.run_bind, hr]
    simp only [Result.andThen]
    rw [Sem.run_bind, run_size g1, g3]
    rfl
  case array n e =>
    have := kdOf_array h2; cases this
    obtain ⟨te, hte, h4⟩ := tyW_spec h
    clear h
    obtain ⟨info2, d2, g1, gu, g2, g3, _⟩ := hT.info hte
    obtain ⟨p, hp, h5⟩ := onPtr_spec h4
    clear h4
    obtain ⟨a, rfl, h6⟩ := ptrW_spec h5
    clear h5
    subst hp
    cases mx <;> simp only at h6 <;> try exact h6.elim
    obtain ⟨l, h7, hl⟩ := bnd_spec h6
    clear h6
    obtain ⟨hh, h8, hh2⟩ := bnd_spec h7
    clear h7
    obtain ⟨hb, hK⟩ := h8
    refine ⟨_, hK, fun w => ?_⟩
    have hr := sliceBounds_run (P := P) (isS := false) (len := n) (cap := n) (lo := lo) (hi := hi) (mx := none) (l := l) (h := hh) (m := n) hl hh2 (.inl ⟨rfl, rfl⟩) (by simp) ⟨hb.1, hb.2.1, hb.2.2, by omega⟩ w
    unfold Instr.sliceAt
    rw [Sem.run_bind, run_und hu]
    simp only [Result.andThen]
    rw [Sem.run_bind, show (Instr.sureAddr (.pointer (some a))).run P w = .ok a w from rfl]
    simp only [Result.andThen]
    rw [Sem.run_bind, hr]
    simp only [Result.andThen]
    rw [Sem.run_bind, run_size g1, g3]
    rfl

theorem max_run (ty : TypeId) (ts : Array TypeId) {x : Value} {k : IntKind} {K : Value → Prop} : ∀ {vs : List Value} {a : Int}, x = .int k a → maxW vs k a K → ∃ v, K v ∧ ∀ w : World, (vs.foldlM Builtin.max2 x : Sem Value).run P w = .ok v w
  | [], a, hx, h => ⟨_, h, fun w => by subst hx; rfl⟩
  | v :: vs, a, hx, h => by
    obtain ⟨k', b, hv, h1⟩ := onInt_spec h
    clear h; subst hv hx
    obtain ⟨v, hK, hr⟩ := max_run ty ts (vs := vs) (x := .int k (if b > a then b else a)) rfl h1
    exact ⟨v, hK, fun w => by rw [List.foldlM_cons, Sem.run_bind]; exact hr w⟩
termination_by vs => vs.length

def min2 : Value → Value → Sem Value := Builtin.min2
theorem min_run (ty : TypeId) (ts : Array TypeId) {x : Value} {k : IntKind} {K : Value → Prop} : ∀ {vs : List Value} {a : Int}, x = .int k a → minW vs k a K → ∃ v, K v ∧ ∀ w : World, (vs.foldlM Builtin.min2 x : Sem Value).run P w = .ok v w
  | [], a, hx, h => ⟨_, h, fun w => by subst hx; rfl⟩
  | v :: vs, a, hx, h => by
    obtain ⟨k', b, hv, h1⟩ := onInt_spec h
    clear h; subst hv hx
    obtain ⟨v, hK, hr⟩ := min_run ty ts (vs := vs) (x := .int k (if b < a then b else a)) rfl h1
    exact ⟨v, hK, fun w => by rw [List.foldlM_cons, Sem.run_bind]; exact hr w⟩
termination_by vs => vs.length

/-! ### Maps -/
theorem findNow_like {d : TypeDesc} {k : Value} (hk : kdKey (kdOf (some d)) k = true) : ∀ (es : List MapEntry) (i : Nat), keysLike k es → ∃ r, Instr.findNow d k es i = some r ∧ r.map (·.2) = mfind k es ∧ (∀ j v, r = some (j, v) → i ≤ j ∧ ∃ e, es[j - i]? = some e ∧ keyEq k e.key = true ∧ e.val = v)
  | [], i, _ => ⟨none, rfl, rfl, by simp⟩
  | e :: es, i, h => by
    have he := h e (by simp)
    obtain ⟨r, h1, h2, h3⟩ := findNow_like hk es (i + 1) (fun e' he' => h e' (by simp [he']))
    have hn : Instr.sameNow d k e.key = some (keyEq k e.key) := by
      cases k <;> cases hek : e.key <;> simp only [likeKey, hek] at he <;> try exact he.elim
      · cases d <;> simp [kdOf, kdKey] at hk
        subst he
        simp [Instr.sameNow, keyEq]
      · cases d <;> simp [kdOf, kdKey] at hk
        simp [Instr.sameNow, keyEq]
    unfold Instr.findNow mfind
    rw [hn]
    cases hb : keyEq k e.key with
    | true => exact ⟨_, rfl, rfl, fun j v hj => by cases hj; exact ⟨Nat.le_refl _, e, by simp, hb, rfl⟩⟩
    | false => exact ⟨r, h1, h2, fun j v hj => by
        obtain ⟨a, e', b, c⟩ := h3 j v hj
        refine ⟨by omega, e', ?_, c⟩
        rw [show j - i = (j - (i + 1)) + 1 by omega]; simpa using b⟩

theorem checkKey_run {t : TypeId} {d : TypeDesc} (hu : P.underlying t = some d) {k : Value} (hk : kdKey (kdOf (some d)) k = true) (b : Bool) (w : World) : (Instr.checkKey b 10000 t k).run P w = .ok () w := by
  show (Instr.checkKey b (9999 + 1) t k).run P w = _
  rw [Instr.checkKey, Sem.run_bind, run_und hu]
  cases d <;> (try simp [kdOf, kdKey] at hk) <;> (cases k <;> (try simp [kdKey] at hk)) <;> rfl

theorem zeroValue_run (hT : TabOk P T) {t : TypeId} {i : TI} (ht : T t = some i) (w : World) : (zeroValue t).run P w = .ok i.zero w := by
  obtain ⟨info, d, h1, hu, h2, h3, h4, h5⟩ := hT.info ht
  unfold zeroValue
  rw [Sem.run_bind, run_ti h1]
  simp only [Result.andThen, h5]
  rfl

theorem findKey_like {t : TypeId} {d : TypeDesc} (hu : P.underlying t = some d) {k : Value} (hk : kdKey (kdOf (some d)) k = true) {es : List MapEntry} (hl : keysLike k es) :
    ∃ r, (∀ w, (Instr.findKey t k es).run P w = .ok r w) ∧ r.map (·.2) = mfind k es ∧ (∀ j v, r = some (j, v) → ∃ e, es[j]? = some e ∧ keyEq k e.key = true ∧ e.val = v) := by
  obtain ⟨r, h1, h2, h3⟩ := findNow_like hk es 0 hl
  refine ⟨r, fun w => ?_, h2, fun j v h => by simpa using (h3 j v h).2⟩
  unfold Instr.findKey
  rw [Sem.run_bind, run_und hu]
  simp only [Result.andThen, h1]
  rfl

theorem look_run (hT : TabOk P T) {t : TypeId} {x k : Value} {ok : Bool} {w : World} {K : Value → Prop} (h00 : lookW T t x k ok w K) : ∃ v, K v ∧ ∀ w', w'.heap = w.heap → (Instr.lookup t x k ok).run P w' = .ok v w' := by
  obtain ⟨r, hx, h0⟩ := onMap_spec h00
  clear h00; subst hx
  obtain ⟨ti, ht, h⟩ := tyW_spec h0
  clear h0
  obtain ⟨info, d, h1, hu, h2, h3, _⟩ := hT.info ht
  cases hk : ti.kd <;> rw [hk] at h h2 <;> simp only at h <;> try exact h.elim
  rename_i kt et
  have := kdOf_map h2; cases this
  obtain ⟨tk, htk, h4⟩ := tyW_spec h
  clear h
  obtain ⟨te, hte, h5⟩ := tyW_spec h4
  clear h4
  obtain ⟨hkd, es, hm, hl, h6⟩ := bW_spec h5
  clear h5
  obtain ⟨v, b, hf, hz, hK⟩ := Sh.ex_spec h6
  clear h6
  obtain ⟨infok, dk, k1, ku, k2, _⟩ := hT.info htk
  rw [← k2] at hkd
  obtain ⟨q, hq, hq2, _⟩ := findKey_like ku hkd hl
  refine ⟨_, hK, fun w' hw => ?_⟩
  have hz' := zeroValue_run hT hte w'
  unfold Instr.lookup
  rw [Sem.run_bind, run_und hu]
  simp only [Result.andThen]
  have tail : ∀ a : Array MapEntry, a.toList = es → ((Instr.checkKey a.isEmpty 10000 kt k).run P w').andThen (fun _ w1 => ((Instr.findKey kt k a.toList).run P w1).andThen fun r w2 => Sem.run P (match r with
      | some (_, v) => (do
        let __x ← pure (v, true)
        pure (if ok = true then Value.tuple #[__x.fst, Value.bool __x.snd] else __x.fst) : Sem Value)
      | none => do
        let __do_lift ← zeroValue et
        let __x ← pure (__do_lift, false)
        pure (if ok = true then Value.tuple #[__x.fst, Value.bool __x.snd] else __x.fst)) w2) = .ok (okV ok v b) w' := by
    intro a ha
    rw [checkKey_run ku hkd]
    simp only [Result.andThen]
    rw [ha, hq]
    simp only [Result.andThen]
    rw [← hq2] at hf
    cases q with
    | none =>
      simp only [Option.map_none] at hf
      cases b with
      | true => simp at hf
      | false =>
        have := hz rfl; subst this
        simp only [Sem.run_bind, hz', Result.andThen, Sem.run_pure]
        cases ok <;> rfl
    | some p =>
      simp only [Option.map_some] at hf
      cases b with
      | false => simp at hf
      | true =>
        simp only [if_true, Option.some.injEq] at hf
        subst hf
        simp only [Sem.run_bind, Result.andThen, Sem.run_pure]
        cases ok <;> rfl
  cases r with
  | none =>
    simp only [mapAt] at hm
    subst hm
    simp only [Sem.run_bind, Sem.run_pure, Result.andThen]
    exact tail #[] rfl
  | some b =>
    obtain ⟨a, clk, hb, ha⟩ := hm
    have hg : (getObj b).run P w' = .ok (.map a clk) w' := by simp [getObj, Sem.run, hw, hb]
    simp only [Sem.run_bind, hg, Result.andThen, Sem.run_pure]
    exact tail a ha

/-- EVERY READING OPERATION. -/
theorem vcQ_run (hT : TabOk P T) {o : Oper} {ρ : Operand → Value} {w : World} {K : Value → Prop} (h : vcQ P T o ρ w K) : ∃ v, K v ∧ Yields1 P (execOp ρ o) w v := by
  obtain ⟨dst, op, type, pos, after, guard⟩ := o
  cases op <;> simp only [vcQ] at h <;> try exact h.elim
  case move x => exact ⟨_, h, yields_pure rfl⟩
  case assign x => exact ⟨_, h, yields_pure rfl⟩
  case pick c a b =>
    obtain ⟨v, hc, h1⟩ := onBool_spec h
    cases v with
    | true => exact ⟨_, h1, fun w' _ => by simp [execOp, hc, asBool]⟩
    | false => exact ⟨_, h1, fun w' _ => by simp [execOp, hc, asBool]⟩
  case extract t i =>
    obtain ⟨l, hl, h1⟩ := onTup_spec h
    obtain ⟨v, hv, hK⟩ := lgetW_spec h1
    refine ⟨v, hK, yields_val fun w' _ => ?_⟩
    have : (⟨l⟩ : Array Value)[i]? = some v := by rw [← Array.getElem?_toList]; exact hv
    simp [Instr.extract, hl, this]
  case nilCheck x =>
    obtain ⟨p, hp, h1⟩ := onPtr_spec h
    obtain ⟨a, rfl, hK⟩ := ptrW_spec h1
    exact ⟨_, hK, fun w' _ => by simp [execOp, hp]⟩
  case load t x =>
    obtain ⟨p, hp, h1⟩ := onPtr_spec h
    obtain ⟨a, rfl, h2⟩ := ptrW_spec h1
    obtain ⟨i, hi, h3⟩ := tyW_spec h2
    obtain ⟨v, hK, hr⟩ := loadW_run hT hi h3
    refine ⟨v, hK, yields_val fun w' hw => ?_⟩
    simp [Instr.loadAt, Instr.sureAddr, hp, hr w' hw]
  case fieldAddr s x f =>
    obtain ⟨p, hp, h1⟩ := onPtr_spec h
    obtain ⟨a, rfl, h2⟩ := ptrW_spec h1
    obtain ⟨i, hi, h3⟩ := tyW_spec h2
    obtain ⟨fs, hfs, h4⟩ := onStruct_spec h3
    obtain ⟨off, ft, hf, h5⟩ := nthF_spec h4
    obtain ⟨fi, hfi, h6⟩ := tyW_spec h5
    obtain ⟨hz, hK⟩ := bW_spec h6
    exact ⟨_, hK, yields_val fun w' _ => by rw [hp]; exact fieldAt_run hT hi hfs hf hfi hz a w'⟩
  case field s x f =>
    obtain ⟨l, hl, h1⟩ := onAgg_spec h
    obtain ⟨i, hi, h3⟩ := tyW_spec h1
    obtain ⟨fs, hfs, h4⟩ := onStruct_spec h3
    obtain ⟨off, ft, hf, h5⟩ := nthF_spec h4
    obtain ⟨fi, hfi, h6⟩ := tyW_spec h5
    obtain ⟨v, hK, hr⟩ := part_run hT hfi h6
    refine ⟨v, hK, yields_val fun w' _ => ?_⟩
    obtain ⟨info, d, e1, hu, e2, e3, _⟩ := hT.info hi
    obtain ⟨fa, hfa, hfm⟩ := kdOf_struct (e2.trans hfs)
    cases hfa
    rw [← hfm, List.getElem?_map] at hf
    cases hfd : fa.toList[f]? with
    | none => rw [hfd] at hf; cases hf
    | some fd =>
      rw [hfd] at hf
      simp only [Option.map_some, Option.some.injEq, Prod.mk.injEq] at hf
      have hfd' : fa[f]? = some fd := by rw [← Array.getElem?_toList]; exact hfd
      unfold Instr.field
      rw [Sem.run_bind, run_und hu]
      simp only [Result.andThen, hfd', hl]
      rw [Sem.run_bind]
      simp only [asAgg, Sem.run_pure, Result.andThen]
      rw [hf.1, hf.2]; exact hr w'
  case indexAddr t x i => obtain ⟨v, hK, hr⟩ := idxAddr_run hT h; exact ⟨v, hK, yields_val fun w' _ => hr w'⟩
  case index t x i => obtain ⟨v, hK, hr⟩ := idx_run hT h; exact ⟨v, hK, yields_val fun w' _ => hr w'⟩
  case slice t x lo hi mx => obtain ⟨v, hK, hr⟩ := slice_run hT h; exact ⟨v, hK, yields_val fun w' _ => hr w'⟩
  case binOp op t x y _ => obtain ⟨v, hK, hr⟩ := bin_run hT h; exact ⟨v, hK, yields_val fun w' hw => hr x y w' hw⟩
  case unOp op _ x => obtain ⟨v, hK, hr⟩ := un_run h; exact ⟨v, hK, yields_val fun w' _ => hr w'⟩
  case convert s d x => obtain ⟨v, hK, hr⟩ := conv_run hT h; exact ⟨v, hK, yields_val fun w' _ => hr w'⟩
  case makeFunc fn first captured =>
    refine ⟨_, h, yields_val fun w' _ => ?_⟩
    simp only [Instr.makeFunc, Sem.run_pure]
    congr 2 <;> (apply Array.toList_inj.1; simp)
  case lookup t x k ok => obtain ⟨v, hK, hr⟩ := look_run hT h; exact ⟨v, hK, yields_val fun w' hw => hr w' hw⟩
  case call c =>
    obtain ⟨callee, args, argTypes⟩ := c
    cases callee <;> simp only at h <;> try exact h.elim
    rename_i b
    have hres : ∀ w' : World, (execOp ρ { dst, op := .call { callee := .builtin b, args, argTypes }, type, pos, after, guard }).run P w' =
        (builtin b argTypes type (args.map fun | .const _ => true | _ => false) (args.map ρ)).run P w' := by
      intro w'
      simp [execOp, resolve, invoke]
      rfl
    have hargs : ∀ l, args.toList = l → args.map ρ = ⟨l.map ρ⟩ := by
      intro l hl; apply Array.toList_inj.1; simp [← hl]
    have hat : ∀ l, argTypes.toList = l → argTypes = ⟨l⟩ := by
      intro l hl; apply Array.toList_inj.1; simp [← hl]
    cases b <;> simp only at h <;> try exact h.elim
    case len =>
      split at h <;> try exact h.elim
      rename_i x t e1 e2
      obtain ⟨v, hK, hr⟩ := len_run (ty := type) hT h
      refine ⟨v, hK, fun w' hw => ?_⟩
      rw [hres, hargs _ e1, hat _ e2]
      show (do pure (.value (← Builtin.len_ #[t] type #[ρ x])) : Sem Next).run P w' = _
      rw [Sem.run_bind, hr w' hw]; rfl
    case cap =>
      split at h <;> try exact h.elim
      rename_i x t e1 e2
      obtain ⟨v, hK, hr⟩ := cap_run (ty := type) hT h
      refine ⟨v, hK, fun w' _ => ?_⟩
      rw [hres, hargs _ e1, hat _ e2]
      show (do pure (.value (← Builtin.cap_ #[t] type #[ρ x])) : Sem Next).run P w' = _
      rw [Sem.run_bind, hr w']; rfl
    case max =>
      split at h <;> try exact h.elim
      rename_i x l e1
      obtain ⟨k, a, hx, h1⟩ := onInt_spec h
      obtain ⟨v, hK, hr⟩ := max_run type argTypes hx h1
      refine ⟨v, hK, fun w' _ => ?_⟩
      rw [hres, hargs _ e1]
      show (do pure (.value (← Builtin.max_ argTypes type ⟨ρ x :: l.map ρ⟩)) : Sem Next).run P w' = _
      rw [Sem.run_bind, show Builtin.max_ argTypes type ⟨ρ x :: l.map ρ⟩ = (l.map ρ).foldlM Builtin.max2 (ρ x) from rfl, hr w']; rfl
    case min =>
      split at h <;> try exact h.elim
      rename_i x l e1
      obtain ⟨k, a, hx, h1⟩ := onInt_spec h
      obtain ⟨v, hK, hr⟩ := min_run type argTypes hx h1
      refine ⟨v, hK, fun w' _ => ?_⟩
      rw [hres, hargs _ e1]
      show (do pure (.value (← Builtin.min_ argTypes type ⟨ρ x :: l.map ρ⟩)) : Sem Next).run P w' = _
      rw [Sem.run_bind, show Builtin.min_ argTypes type ⟨ρ x :: l.map ρ⟩ = (l.map ρ).foldlM Builtin.min2 (ρ x) from rfl, hr w']; rfl

end
end Go.Proofs.YtgepmlgkeljelaaGreat.Vc

/- The conditions are enough: every operation. -/
namespace Go.Proofs.YtgepmlgkeljelaaGreat.Vc
open Go

section
variable {P : Program} {T : TypeId → Option TI}

theorem cellsW_spec (hT : TabOk P T) {t : TypeId} {i : TI} (ht : T t = some i) {v : Value} {X : List Value → Prop} (h : cellsW i v X) : ∃ cs, v.cells = ⟨cs⟩ ∧ cs.length = i.size ∧ X cs := by
  unfold cellsW at h
  cases hs : i.sh with
  | tup ps => rw [hs] at h; exact h.elim
  | pt p =>
    cases p with
    | one c =>
      rw [hs] at h
      obtain ⟨h1, _, h3⟩ := oneW_spec h
      refine ⟨[v], ?_, by rw [(fits_one hT ht hs).2.1]; rfl, h3⟩
      cases v <;> first | rfl | exact absurd rfl (h1 _)
    | agg cs =>
      rw [hs] at h
      obtain ⟨l, rfl, h4⟩ := onAgg_spec h
      obtain ⟨h5, h6⟩ := bW_spec h4
      exact ⟨l, rfl, Nat.eq_of_beq_eq_true h5, h6⟩

theorem store_run {a : Addr} {v : Value} {w : World} (h1 : ∃ u, w.cell? a = some u) (h2 : w.frozen? a = false) (h3 : ∀ l, v ≠ .agg l) (h4 : ∀ l, v ≠ .tuple l) : (store a v).run P w = .ok () (w.setCell a v) := by
  obtain ⟨u, hu⟩ := h1
  cases v <;> first
    | exact absurd rfl (h3 _)
    | exact absurd rfl (h4 _)
    | simp [store, Sem.run, hu, h2]

theorem storeW_run : ∀ {vs : List Value} {a : Addr} {i : Nat} {K : World → Prop} {w : World}, storeW vs a i K w → ∃ w', (storeCells a vs i).run P w = .ok () w' ∧ K w'
  | [], _, _, _, w, h => ⟨w, rfl, h⟩
  | v :: vs, a, i, K, w, h => by
    obtain ⟨h1, h2, h3⟩ := h
    obtain ⟨h4, h5, h6⟩ := oneW_spec h3
    obtain ⟨w', h7, h8⟩ := storeW_run h6
    refine ⟨w', ?_, h8⟩
    unfold storeCells
    rw [Sem.run_bind, store_run h1 h2 h4 h5]
    exact h7

theorem storeAt_run (hT : TabOk P T) {t : TypeId} {i : TI} (ht : T t = some i) {v : Value} {a : Addr} {K : World → Prop} {w : World} (h : cellsW i v fun cs => storeW cs a 0 K w) :
    ∃ w', (Instr.storeAt t (.pointer (some a)) v).run P w = .ok () w' ∧ K w' := by
  obtain ⟨info, d, h1, hu, h2, h3, _⟩ := hT.info ht
  obtain ⟨cs, hc, hl, hs⟩ := cellsW_spec hT ht h
  obtain ⟨w', hr, hK⟩ := storeW_run (P := P) hs
  refine ⟨w', ?_, hK⟩
  unfold Instr.storeAt Instr.sureAddr
  rw [Sem.run_bind]
  simp only [Sem.run_pure, Result.andThen]
  unfold storeVar
  rw [Sem.run_bind, run_size h1, h3]
  simp only [Result.andThen, hc]
  rw [if_neg (by simp [hl])]
  exact hr

/-! ### build -/
theorem foldl_put (off : Nat) : ∀ (vs : List Value) (k : Nat) (cells : List Value),
    (vs.zipIdx k).foldl (fun cs (p : Value × Nat) => cs.setIfInBounds (off + p.2) p.1) (⟨cells⟩ : Array Value) = ⟨putL cells (off + k) vs⟩
  | [], _, _ => rfl
  | v :: vs, k, cells => by
    rw [List.zipIdx_cons, List.foldl_cons]
    have : (⟨cells⟩ : Array Value).setIfInBounds (off + k) v = ⟨cells.set (off + k) v⟩ := by apply Array.toList_inj.1; simp
    simp only [this]
    rw [foldl_put off vs (k + 1)]
    rfl

theorem fill_step (cells vs : List Value) (off : Nat) : (⟨vs⟩ : Array Value).zipIdx.foldl (fun cs (p : Value × Nat) => cs.setIfInBounds (off + p.2) p.1) (⟨cells⟩ : Array Value) = ⟨putL cells off vs⟩ := by
  rw [← Array.foldl_toList]
  have : (⟨vs⟩ : Array Value).zipIdx.toList = vs.zipIdx 0 := by simp
  rw [this]
  exact foldl_put off vs 0 cells

theorem placeW_spec {k : KD} {i : Nat} {X : Nat → TI → Prop} (h : placeW T k i X) : ∃ off t ti, T t = some ti ∧ X off ti ∧
    ((∃ fs, k = .struct fs ∧ fs[i]? = some (off, t)) ∨ (∃ n, k = .array n t ∧ off = i * ti.size)) := by
  cases k <;> simp only [placeW] at h <;> try exact h.elim
  case struct fs =>
    obtain ⟨off, ft, hf, h1⟩ := nthF_spec h
    obtain ⟨fi, hfi, h2⟩ := tyW_spec h1
    exact ⟨off, ft, fi, hfi, h2, .inl ⟨fs, rfl, hf⟩⟩
  case array n e =>
    obtain ⟨te, hte, h2⟩ := tyW_spec h
    exact ⟨_, e, te, hte, h2, .inr ⟨n, rfl, rfl⟩⟩

theorem fillW_spec (hT : TabOk P T) {k : KD} {pl : Nat → Option (Nat × Nat)} (hpl : ∀ i off t ti, T t = some ti → ((∃ fs, k = .struct fs ∧ fs[i]? = some (off, t)) ∨ (∃ n, k = .array n t ∧ off = i * ti.size)) → pl i = some (off, ti.size)) :
    ∀ {parts : List (Nat × Value)} {cells : List Value} {X : List Value → Prop}, fillW T k cells parts X → ∃ l, Instr.fill pl ⟨cells⟩ parts = some ⟨l⟩ ∧ X l
  | [], cells, X, h => ⟨cells, rfl, h⟩
  | (i, v) :: r, cells, X, h => by
    obtain ⟨off, t, ti, ht, h1, h2⟩ := placeW_spec h
    obtain ⟨cs, hc, hl, h3⟩ := cellsW_spec hT ht h1
    obtain ⟨h4, h5⟩ := bW_spec h3
    obtain ⟨l, h6, h7⟩ := fillW_spec hT hpl h5
    refine ⟨l, ?_, h7⟩
    have hle := Nat.le_of_ble_eq_true h4
    unfold Instr.fill
    rw [hpl i off t ti ht h2]
    simp only [hc]
    rw [if_neg (by simp [hl]; rw [← hl]; exact hle), fill_step]
    exact h6

theorem tysIn_mapM (hT : TabOk P T) : ∀ (fs : List Field), tysIn T (fs.map fun f => (f.offset, f.type)) = true →
    ∃ places : List (Nat × Nat), fs.mapM (fun f => (P.info? f.type).map fun i => (f.offset, i.size)) = some places ∧ ∀ (i off : Nat) (t : TypeId) (ti : TI), T t = some ti → (fs.map fun f => (f.offset, f.type))[i]? = some (off, t) → places[i]? = some (off, ti.size)
  | [], _ => ⟨[], rfl, fun i off t ti _ h => by simp at h⟩
  | f :: fs, h => by
    simp only [List.map_cons, tysIn] at h
    cases hf : T f.type with
    | none => rw [hf] at h; cases h
    | some fi =>
      rw [hf] at h
      obtain ⟨places, h1, h2⟩ := tysIn_mapM hT fs h
      obtain ⟨info, d, e1, hu, e2, e3, _⟩ := hT.info hf
      refine ⟨(f.offset, info.size) :: places, by simp [e1, h1], fun i off t ti ht hi => ?_⟩
      cases i with
      | zero =>
        simp only [List.map_cons, List.getElem?_cons_zero, Option.some.injEq, Prod.mk.injEq] at hi
        obtain ⟨rfl, rfl⟩ := hi
        rw [hf] at ht; cases ht
        simp [e3]
      | succ i => simpa using h2 i off t ti ht (by simpa using hi)

theorem buildW_run (hT : TabOk P T) {t : TypeId} {parts : List (Nat × Value)} {K : Value → Prop} (h : buildW T t parts K) : ∃ v, K v ∧ ∀ w : World, (Instr.build t ⟨parts⟩).run P w = .ok v w := by
  obtain ⟨i, ht, h1⟩ := tyW_spec h
  clear h
  obtain ⟨h2, h3⟩ := bW_spec h1
  clear h1
  obtain ⟨info, d, e1, hu, e2, e3, e4, e5⟩ := hT.info ht
  cases hk : i.kd <;> rw [hk] at h2 h3 e2 <;> simp only [partsIn] at h2 <;> try (cases h2; done)
  case struct fs =>
    obtain ⟨fa, hfa, hfm⟩ := kdOf_struct e2
    cases hfa
    rw [← hfm] at h2 h3
    obtain ⟨places, h4, h5⟩ := tysIn_mapM hT _ h2
    obtain ⟨l, h6, h7⟩ := fillW_spec (pl := (places.toArray[·]?)) hT (fun i off t ti ht hh => by
      rcases hh with ⟨fs, hfs, hfi⟩ | ⟨n, hn, _⟩
      · cases hfs; simpa using h5 i off t ti ht hfi
      · cases hn) h3
    refine ⟨_, h7, fun w => run_build w t ⟨parts⟩ ⟨l⟩ ?_⟩
    unfold Program.built
    simp only [e1, hu, e5, h4]
    rw [cellsOf_eq]; exact h6
  case array n e =>
    have := kdOf_array e2; cases this
    cases he : T e with
    | none => rw [he] at h2; cases h2
    | some te =>
      obtain ⟨info2, d2, g1, gu, g2, g3, _⟩ := hT.info he
      obtain ⟨l, h6, h7⟩ := fillW_spec (pl := fun i => some (i * info2.size, info2.size)) hT (fun i off t ti ht hh => by
        rcases hh with ⟨fs, hfs, hfi⟩ | ⟨n, hn, hoff⟩
        · cases hfs
        · cases hn
          rw [he] at ht; cases ht
          rw [hoff, g3]) h3
      refine ⟨_, h7, fun w => run_build w t ⟨parts⟩ ⟨l⟩ ?_⟩
      unfold Program.built
      simp only [e1, hu, e5, g1]
      rw [cellsOf_eq]; exact h6

/-! ### Every operation -/
/-- How an operation may end. -/
def Ends (P : Program) (s : Sem Next) (w : World) (K : Value → World → Prop) : Prop :=
  (∃ v w', s.run P w = .ok (.value v) w' ∧ K v w') ∨ (∃ w', s.run P w = .ok .skip w' ∧ K undef w') ∨
  (∃ g args, s.run P w = .ok (.enter g args) w ∧ Calls P g args w fun e w' => ∃ v, e = .returned v ∧ K v w') ∨
  (∃ l f tmps assign body, s.run P w = .ok (.round l f tmps assign body) w ∧ RoundIn (anyF none) 1000 P l f tmps assign body w fun e w' => ∃ v, e = .returned v ∧ K v w')

theorem ends_val {s : Sem Value} {w w' : World} {v : Value} {K : Value → World → Prop} (h : s.run P w = .ok v w') (hK : K v w') : Ends P (do pure (.value (← s))) w K :=
  .inl ⟨v, w', by rw [Sem.run_bind, h]; rfl, hK⟩
theorem ends_unit {s : Sem Unit} {w w' : World} {K : Value → World → Prop} (h : s.run P w = .ok () w') (hK : K undef w') : Ends P (do s; pure .skip) w K :=
  .inr (.inl ⟨w', by rw [Sem.run_bind, h]; rfl, hK⟩)

theorem arr_map {α β : Type} (f : α → β) (a : Array α) : a.map f = ⟨a.toList.map f⟩ := by apply Array.toList_inj.1; simp

theorem vcCall_run (hT : TabOk P T) {B : FuncId → Bool} (hB : ∀ g, B g = true → ∀ args w, (callFunc g args).run P w = .ok (.enter g args) w) {c : Call} {t : TypeId} {ρ : Operand → Value} {w : World} {K : Value → World → Prop}
    (h : vcCall P T B c t ρ w K) : Ends P (do let d ← resolve ρ c t; invoke d.target d.args) w K := by
  obtain ⟨callee, args, argTypes⟩ := c
  have hargs : args.map ρ = ⟨args.toList.map ρ⟩ := arr_map _ _
  have bl : ∀ {b : Builtin} {s : Sem Value}, builtin b argTypes t (args.map fun | .const _ => true | _ => false) (args.map ρ) = (do pure (.value (← s))) →
      (∃ v w', s.run P w = .ok v w' ∧ K v w') → Ends P (do let d ← resolve ρ { callee := .builtin b, args, argTypes } t; invoke d.target d.args) w K := by
    rintro b s hs ⟨v, w', hr, hK⟩
    refine .inl ⟨v, w', ?_, hK⟩
    have : (do let d ← resolve ρ { callee := .builtin b, args, argTypes } t; invoke d.target d.args : Sem Next) = builtin b argTypes t (args.map fun | .const _ => true | _ => false) (args.map ρ) := rfl
    rw [this, hs, Sem.run_bind, hr]; rfl
  have rv : ∀ {s : Sem Value} {i : TI}, runV P s i.sh w K → ∃ v w', s.run P w = .ok v w' ∧ K v w' := by
    intro s i h
    obtain ⟨v, w', h1, h2⟩ := Sh.ex_spec h
    exact ⟨v, w', h1, h2⟩
  cases callee with
  | value f =>
    obtain ⟨i, hi, h1⟩ := tyW_spec h
    unfold callV at h1
    split at h1
    · rename_i g l r hf
      obtain ⟨hg, h3⟩ := bW_spec h1
      refine .inr (.inr (.inl ⟨g, ⟨l ++ args.toList.map ρ ++ r⟩, ?_, h3.mono fun e w' he => Sh.ex_spec he⟩))
      simp only [resolve, hf, Deferred.ofValue]
      rw [Sem.run_bind]
      simp only [Sem.run_pure, Result.andThen, invoke]
      rw [show (⟨l⟩ : Array Value) ++ args.map ρ ++ (⟨r⟩ : Array Value) = ⟨l ++ args.toList.map ρ ++ r⟩ by apply Array.toList_inj.1; simp]
      exact hB g hg _ w
    · rename_i l first r hf
      cases first with
      | cons x xs => exact h1.elim
      | nil =>
        obtain ⟨f', tmps, assign, body, hy, hr⟩ := h1
        refine .inr (.inr (.inr ⟨l, f', tmps, assign, body, ?_, hr.mono fun e w' he => Sh.ex_spec he⟩))
        simp only [resolve, hf, Deferred.ofValue]
        rw [Sem.run_bind]
        simp only [Sem.run_pure, Result.andThen, invoke]
        rw [show (⟨[]⟩ : Array Value) ++ args.map ρ = ⟨args.toList.map ρ⟩ by apply Array.toList_inj.1; simp]
        exact hy
    · exact h1.elim
  | invoke r m => exact h.elim
  | builtin b =>
    cases b <;> simp only [vcCall] at h <;> try exact h.elim
    case append => obtain ⟨i, hi, h1⟩ := tyW_spec h; exact bl (by rw [hargs]; rfl) (rv h1)
    case copy => obtain ⟨i, hi, h1⟩ := tyW_spec h; exact bl (by rw [hargs]; rfl) (rv h1)
    case delete => obtain ⟨i, hi, h1⟩ := tyW_spec h; exact bl (by rw [hargs]; rfl) (rv h1)
    case clear => obtain ⟨i, hi, h1⟩ := tyW_spec h; exact bl (by rw [hargs]; rfl) (rv h1)

theorem newVar_run (t : TypeId) (v : Value) (w : World) : (newVar t v).run P w = .ok ⟨w.heap.size, 0, none⟩ (w.alloc (.cells v.cells t)) := rfl

theorem vcOp_run (hT : TabOk P T) {B : FuncId → Bool} (hB : ∀ g, B g = true → ∀ args w, (callFunc g args).run P w = .ok (.enter g args) w) {o : Oper} {ρ : Operand → Value} {w : World} {K : Value → World → Prop}
    (h : vcOp P T B o ρ w K) : Ends P (execOp ρ o) w K := by
  have qd : vcQ P T o ρ w (fun v => K v w) → Ends P (execOp ρ o) w K := fun h => by
    obtain ⟨v, hK, hy⟩ := vcQ_run hT h
    exact .inl ⟨v, w, hy w rfl, hK⟩
  have rv : ∀ {s : Sem Value} {sh : Sh}, runV P s sh w K → Ends P (do pure (.value (← s))) w K := fun h => by
    obtain ⟨v, w', h1, h2⟩ := Sh.ex_spec h
    exact ends_val h1 h2
  have rv2 : ∀ {s : Sem Value}, (∃ v w', s.run P w = .ok v w' ∧ K v w') → Ends P (do pure (.value (← s))) w K := fun ⟨v, w', h1, h2⟩ => ends_val h1 h2
  have ru : ∀ {s : Sem Unit}, runU P s w K → Ends P (do s; pure .skip) w K := fun ⟨w', h1, h2⟩ => ends_unit h1 h2
  obtain ⟨dst, op, type, pos, after, guard⟩ := o
  cases op <;> simp only [vcOp] at h <;> try exact qd h
  case store t x v =>
    obtain ⟨p, hp, h1⟩ := onPtr_spec h
    obtain ⟨a, rfl, h2⟩ := ptrW_spec h1
    obtain ⟨i, hi, h3⟩ := tyW_spec h2
    obtain ⟨w', hr, hK⟩ := storeAt_run hT hi h3
    exact ends_unit (by rw [hp]; exact hr) hK
  case alloc t =>
    obtain ⟨i, hi, h1⟩ := tyW_spec h
    have hz := zeroValue_run hT hi w
    refine ends_val (v := .pointer (some ⟨w.heap.size, 0, none⟩)) (w' := w.alloc (.cells ⟨cellsOf i.zero⟩ t)) ?_ h1
    unfold Instr.alloc
    rw [Sem.run_bind, hz]
    simp only [Result.andThen]
    rw [Sem.run_bind, newVar_run, cellsOf_eq]
    rfl
  case box t v =>
    obtain ⟨i, hi, h1⟩ := tyW_spec h
    obtain ⟨cs, hc, hl, h2⟩ := cellsW_spec hT hi h1
    refine ends_val (v := .pointer (some ⟨w.heap.size, 0, none⟩)) (w' := w.alloc (.cells ⟨cs⟩ t)) ?_ h2
    unfold Instr.box
    rw [Sem.run_bind, newVar_run, hc]
    rfl
  case build t parts =>
    obtain ⟨v, hK, hr⟩ := buildW_run hT h
    refine ends_val (v := v) (w' := w) ?_ hK
    rw [show (parts.map fun (p : Nat × Operand) => (p.1, ρ p.2)) = ⟨parts.toList.map fun p => (p.1, ρ p.2)⟩ from arr_map _ _]
    exact hr w
  case makeMap t r =>
    cases r <;> simp only at h <;> try exact h.elim
    exact ends_val rfl h
  case makeSlice t l c => obtain ⟨i, hi, h1⟩ := tyW_spec h; exact rv h1
  case buildSlice t n parts =>
    obtain ⟨i, hi, h1⟩ := tyW_spec h
    have := rv h1
    rw [show (⟨parts.toList.map fun p => (p.1, ρ p.2)⟩ : Array (Nat × Value)) = parts.map fun (p : Nat × Operand) => (p.1, ρ p.2) from (arr_map _ _).symm] at this
    exact this
  case mapUpdate t m k x => exact ru h
  case insert t m k x => exact ru h
  case mapEntry t m k => exact rv2 h
  case entryStore t m s x => exact ru h
  case range t x => exact rv h
  case next it isString => exact rv2 h
  case entry it => exact rv2 h
  case makeInterface t x => exact rv h
  case convert s d x =>
    split at h
    · obtain ⟨i, hi, h1⟩ := tyW_spec h
      exact rv h1
    · exact qd h
  case call c =>
    obtain ⟨callee, args, argTypes⟩ := c
    cases callee with
    | value f => exact vcCall_run hT hB h
    | invoke r m => exact qd h
    | builtin b => cases b <;> first | exact vcCall_run hT hB h | exact qd h

end
end Go.Proofs.YtgepmlgkeljelaaGreat.Vc
