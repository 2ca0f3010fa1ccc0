/- The conditions are enough: one operation. -/
import Derived.Test.YtgepmlgkeljelaaVcC
import Derived.Test.YtgepmlgkeljelaaVcO
namespace Go.Proofs.Ytgepmlgkeljelaa.Vc
open Go

section
variable {P : Program} {T : TypeId → Option TI}

/-! ### What the table says of the program's own -/
theorem TabOk.info (hT : TabOk P T) {t : TypeId} {i : TI} (h : T t = some i) :
    ∃ info d, P.info? t = some info ∧ P.underlying t = some d ∧ kdOf (some d) = i.kd ∧ info.size = i.size ∧ info.bytes = i.bytes ∧ info.zero = some i.zero := by
  have h1 := hT.view t i h
  unfold viewT TI.view at h1
  cases hp : P.info? t with
  | none => rw [hp] at h1; cases h1
  | some info =>
    cases hu : P.underlying t with
    | none => rw [hp, hu] at h1; cases h1
    | some d =>
      rw [hp, hu] at h1
      simp only at h1
      cases hz : info.zero with
      | none => rw [hz] at h1; cases h1
      | some z =>
        rw [hz] at h1
        simp only [Option.some.injEq, Prod.mk.injEq] at h1
        exact ⟨info, d, rfl, rfl, h1.1, h1.2.1, h1.2.2.1, by rw [hz, h1.2.2.2]⟩

theorem kdOf_slice {u : Option TypeDesc} {e : TypeId} (h : kdOf u = .slice e) : u = some (.slice e) := by
  rcases u with _ | d
  · cases h
  · cases d <;> simp [kdOf] at h
    rw [h]
theorem kdOf_array {u : Option TypeDesc} {n : Nat} {e : TypeId} (h : kdOf u = .array n e) : u = some (.array n e) := by
  rcases u with _ | d
  · cases h
  · cases d <;> simp [kdOf] at h
    rw [h.1, h.2]
theorem kdOf_struct {u : Option TypeDesc} {fs : List (Nat × TypeId)} (h : kdOf u = .struct fs) : ∃ fa : Array Field, u = some (.struct fa) ∧ fa.toList.map (fun f => (f.offset, f.type)) = fs := by
  rcases u with _ | d
  · cases h
  · cases d <;> simp [kdOf] at h
    exact ⟨_, rfl, h⟩
theorem kdOf_map {u : Option TypeDesc} {k e : TypeId} (h : kdOf u = .map k e) : u = some (.map k e) := by
  rcases u with _ | d
  · cases h
  · cases d <;> simp [kdOf] at h
    rw [h.1, h.2]
theorem kdOf_string {u : Option TypeDesc} (h : kdOf u = .string) : u = some .string := by
  rcases u with _ | d
  · cases h
  · cases d <;> simp [kdOf] at h; rfl
theorem kdOf_bool {u : Option TypeDesc} (h : kdOf u = .bool) : u = some .bool := by
  rcases u with _ | d
  · cases h
  · cases d <;> simp [kdOf] at h; rfl
theorem kdOf_int {u : Option TypeDesc} {k : IntKind} (h : kdOf u = .int k) : u = some (.int k) := by
  rcases u with _ | d
  · cases h
  · cases d <;> simp [kdOf] at h
    rw [h]
theorem kdOf_ptr {u : Option TypeDesc} {e : TypeId} (h : kdOf u = .ptr e) : u = some (.pointer e) := by
  rcases u with _ | d
  · cases h
  · cases d <;> simp [kdOf] at h
    rw [h]

theorem run_und {t : TypeId} {d : TypeDesc} (h : P.underlying t = some d) (w : World) : (underlying t).run P w = .ok d w := run_underlying h w
theorem run_ti {t : TypeId} {info : TypeInfo} (h : P.info? t = some info) (w : World) : (typeInfo t).run P w = .ok info w := by
  simp [typeInfo, program, Sem.run_bind, Sem.run, Result.andThen, h]
theorem run_size {t : TypeId} {info : TypeInfo} (h : P.info? t = some info) (w : World) : (sizeOf t).run P w = .ok info.size w := by
  unfold sizeOf
  rw [Sem.run_bind, run_ti h]; rfl

/-- Is it a struct or an array? -/
def KD.agg : KD → Bool | .struct _ => true | .array _ _ => true | _ => false
theorem run_isAgg (hT : TabOk P T) {t : TypeId} {i : TI} (h : T t = some i) (w : World) : (isAgg t).run P w = .ok i.kd.agg w := by
  obtain ⟨info, d, h1, hu, h2, _⟩ := hT.info h
  unfold isAgg
  rw [Sem.run_bind, run_und hu]
  rw [← h2]
  cases d <;> rfl

theorem cell_heap {w w' : World} (h : w'.heap = w.heap) (a : Addr) : w'.cell? a = w.cell? a := by unfold World.cell?; rw [h]

theorem run_load_cell {a : Addr} {v : Value} {w : World} (h : w.cell? a = some v) : (load a).run P w = .ok v w := by
  simp [load, Sem.run, h]

theorem cellsAt_get : ∀ {vs : List Value} {w : World} {a : Addr} {i : Nat}, cellsAt w a i vs → ∀ j v, vs[j]? = some v → w.cell? (a.add (i + j)) = some v
  | [], _, _, _, _, j, v, h => by simp at h
  | u :: vs, w, a, i, hc, 0, v, h => by simp at h; subst h; exact hc.1
  | u :: vs, w, a, i, hc, j + 1, v, h => by
    have := cellsAt_get (vs := vs) hc.2 j v (by simpa using h)
    rwa [show i + 1 + j = i + (j + 1) by omega] at this

theorem fits_one (hT : TabOk P T) {t : TypeId} {i : TI} (h : T t = some i) {c : CK} (hs : i.sh = .pt (.one c)) : i.kd.agg = false ∧ i.size = 1 ∧ (cellsOf i.zero).length = 1 := by
  have h1 := hT.fits t i h
  unfold TI.fits at h1
  rw [hs] at h1
  simp only [Bool.and_eq_true] at h1
  refine ⟨?_, Nat.eq_of_beq_eq_true h1.1.2, Nat.eq_of_beq_eq_true h1.2⟩
  cases hk : i.kd <;> rw [hk] at h1 <;> first | rfl | simp at h1
theorem fits_agg (hT : TabOk P T) {t : TypeId} {i : TI} (h : T t = some i) {cs : List CK} (hs : i.sh = .pt (.agg cs)) : i.kd.agg = true ∧ cs.length = i.size ∧ (cellsOf i.zero).length = i.size := by
  have h1 := hT.fits t i h
  unfold TI.fits at h1
  rw [hs] at h1
  simp only [Bool.and_eq_true] at h1
  refine ⟨?_, Nat.eq_of_beq_eq_true h1.1.2, Nat.eq_of_beq_eq_true h1.2⟩
  cases hk : i.kd <;> rw [hk] at h1 <;> first | rfl | simp at h1

theorem CK.exs_spec' : ∀ {cs : List CK} {K : List Value → Prop}, CK.exs cs K → ∃ vs, vs.length = cs.length ∧ K vs := CK.exs_spec

theorem loadW_run (hT : TabOk P T) {t : TypeId} {i : TI} (ht : T t = some i) {a : Addr} {w : World} {K : Value → Prop} (h : loadW i.sh a w K) :
    ∃ v, K v ∧ ∀ w', w'.heap = w.heap → (loadVar t a).run P w' = .ok v w' := by
  obtain ⟨info, d, h1, hu, h2, h3, _⟩ := hT.info ht
  cases hs : i.sh with
  | tup ps => rw [hs] at h; exact h.elim
  | pt p =>
    cases p with
    | one c =>
      rw [hs] at h
      obtain ⟨v, hc, hK⟩ := CK.ex_spec h
      refine ⟨v, hK, fun w' hw => ?_⟩
      unfold loadVar
      rw [Sem.run_bind, run_isAgg hT ht, (fits_one hT ht hs).1]
      exact run_load_cell (by rw [cell_heap hw]; exact hc)
    | agg cs =>
      rw [hs] at h
      obtain ⟨vs, hl, hc, hK⟩ := CK.exs_spec h
      refine ⟨_, hK, fun w' hw => ?_⟩
      have hf := fits_agg hT ht hs
      unfold loadVar
      rw [Sem.run_bind, run_isAgg hT ht, hf.1]
      simp only [Result.andThen, if_true]
      rw [Sem.run_bind, run_size h1, h3, ← hf.2.1, ← hl]
      simp only [Result.andThen]
      rw [Sem.run_bind, run_loadCells_list w' a vs (fun j v hj => by have := cellsAt_get hc j v hj; rw [Nat.zero_add] at this; rw [cell_heap hw]; exact this)]
      rfl

/-- What is asked of a reading operation. -/
def Yields1 (P : Program) (s : Sem Next) (w : World) (v : Value) : Prop := ∀ w', w'.heap = w.heap → s.run P w' = .ok (.value v) w'
theorem yields_pure {s : Sem Next} {w : World} {v : Value} (h : s = pure (.value v)) : Yields1 P s w v := fun w' _ => by rw [h]; rfl
/-- 'v s' of execOp. -/
theorem yields_val {s : Sem Value} {w : World} {v : Value} (h : ∀ w', w'.heap = w.heap → s.run P w' = .ok v w') : Yields1 P (do pure (.value (← s))) w v := fun w' hw => by
  rw [Sem.run_bind, h w' hw]; rfl

theorem fieldAt_run (hT : TabOk P T) {s : TypeId} {i : TI} (hs : T s = some i) {fs : List (Nat × TypeId)} (hk : i.kd = .struct fs) {f off : Nat} {ft : TypeId} (hf : fs[f]? = some (off, ft)) {fi : TI} (hft : T ft = some fi)
    (hz : Nat.blt 0 fi.size = true) (a : Addr) (w : World) : (Instr.fieldAt s (.pointer (some a)) f).run P w = .ok (.pointer (some (a.add off))) w := by
  obtain ⟨info, d, h1, hu, h2, h3, _⟩ := hT.info hs
  obtain ⟨fa, hfa, hfm⟩ := kdOf_struct (h2.trans hk)
  cases hfa
  obtain ⟨info2, d2, g1, gu, g2, g3, _⟩ := hT.info hft
  have hz' : info2.size ≠ 0 := by have := Nat.le_of_ble_eq_true hz; omega
  rw [← hfm, List.getElem?_map] at hf
  cases hfd : fa.toList[f]? with
  | none => rw [hfd] at hf; cases hf
  | some fd =>
    rw [hfd] at hf
    simp only [Option.map_some, Option.some.injEq, Prod.mk.injEq] at hf
    have hfd' : fa[f]? = some fd := by rw [← Array.getElem?_toList]; exact hfd
    unfold Instr.fieldAt
    rw [Sem.run_bind, run_und hu]
    simp only [Result.andThen, hfd']
    rw [Sem.run_bind]
    show ((Sem.run P (pure a) w).andThen _) = _
    simp only [Sem.run_pure, Result.andThen]
    rw [Sem.run_bind]
    unfold fieldPlace
    rw [Sem.run_bind, hf.2, run_size g1]
    simp only [Result.andThen, if_neg hz']
    rw [hf.1]; rfl

theorem part_run (hT : TabOk P T) {t : TypeId} {i : TI} (ht : T t = some i) {off : Nat} {l : List Value} {K : Value → Prop} (h : partW i off l K) :
    ∃ v, K v ∧ ∀ w : World, (part t ⟨l⟩ off).run P w = .ok v w := by
  obtain ⟨info, d, h1, hu, h2, h3, _⟩ := hT.info ht
  unfold partW at h
  cases hs : i.sh with
  | tup ps => rw [hs] at h; exact h.elim
  | pt p =>
    cases p with
    | one c =>
      rw [hs] at h
      obtain ⟨v, hv, hK⟩ := lgetW_spec h
      refine ⟨v, hK, fun w => ?_⟩
      unfold part
      rw [Sem.run_bind, run_isAgg hT ht, (fits_one hT ht hs).1]
      simp only [Result.andThen, Bool.false_eq_true, if_false]
      have : (⟨l⟩ : Array Value)[off]? = some v := by rw [← Array.getElem?_toList]; exact hv
      rw [this]; rfl
    | agg cs =>
      rw [hs] at h
      refine ⟨_, h, fun w => ?_⟩
      have hf := fits_agg hT ht hs
      unfold part
      rw [Sem.run_bind, run_isAgg hT ht, hf.1]
      simp only [Result.andThen, if_true]
      rw [Sem.run_bind, run_size h1, h3, ← hf.2.1]
      simp only [Result.andThen, Sem.run_pure]
      congr 2
      apply Array.toList_inj.1
      simp [List.extract_eq_take_drop]

end
end Go.Proofs.Ytgepmlgkeljelaa.Vc
