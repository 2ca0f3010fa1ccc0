/- The conditions are enough: the reading operations. -/
import Derived.Test.YtgepmlgkeljelaaVcS
namespace Go.Proofs.Ytgepmlgkeljelaa.Vc
open Go

section
variable {P : Program} {T : TypeId → Option TI}

theorem intOp_run {op : BinOp} {k : IntKind} {a b : Int} {K : Value → Prop} (t : TypeId) (h : intOp op k a b K) :
    ∃ v, K v ∧ ∀ w : World, (binOp op t (.int k a) (.int k b)).run P w = .ok v w := by
  cases op <;> simp only [intOp] at h <;> first
    | exact h.elim
    | exact ⟨_, h, fun w => by simp [binOp, Op.intArith, Op.intCmp, Op.intBits, bits]⟩
    | (obtain ⟨hb, hK⟩ := h
       exact ⟨_, hK, fun w => by simp [binOp, Op.intDiv, hb]⟩)

theorem shiftOp_run {op : BinOp} {k k' : IntKind} {a b : Int} {K : Value → Prop} (t : TypeId) (h : shiftOp op k a b K) :
    ∃ v, K v ∧ ∀ w : World, (binOp op t (.int k a) (.int k' b)).run P w = .ok v w := by
  cases op <;> simp only [shiftOp] at h <;> first
    | exact h.elim
    | (obtain ⟨hb, hK⟩ := h
       have hb' : ¬ b < 0 := by omega
       exact ⟨_, hK, fun w => by simp [binOp, Op.shift, hb']⟩)

theorem strOp_run {op : BinOp} {a b : ByteArray} {K : Value → Prop} (t : TypeId) (h : strOp op a b K) :
    ∃ v, K v ∧ ∀ w : World, (binOp op t (.string a) (.string b)).run P w = .ok v w := by
  cases op <;> simp only [strOp] at h <;> first
    | exact h.elim
    | exact ⟨_, h, fun w => by simp [binOp, Op.stringOp]⟩
    | (obtain ⟨hb, hK⟩ := h
       refine ⟨_, hK, fun w => ?_⟩
       have hb' : ¬ (IntKind.i64.max < ((a.size + b.size : Nat) : Int)) := by
         have : IntKind.i64.max = 9223372036854775807 := by decide
         omega
       simp only [binOp, Op.stringOp]
       rw [if_neg hb']; rfl)

theorem eqW_run {op : BinOp} {b : Bool} {K : Value → Prop} (h : eqW op b K) : (op = .eql ∧ K (.bool b)) ∨ (op = .neq ∧ K (.bool (!b))) := by
  cases op <;> simp only [eqW] at h <;> first | exact h.elim | exact .inl ⟨rfl, h⟩ | exact .inr ⟨rfl, h⟩

/-- '==' ¦ '!=' where the comparison itself comes to b. -/
theorem eq_run {op : BinOp} {t : TypeId} {x y : Value} {b : Bool} {K : Value → Prop} (h : eqW op b K) (hx : ∀ k n, x ≠ .int k n) (hx2 : ∀ s, x ≠ .string s) (hx3 : ∀ k n, x ≠ .float k n) (hx4 : ∀ k n m, x ≠ .complex k n m)
    (he : ∀ w : World, (Op.equal t x y).run P w = .ok b w) : ∃ v, K v ∧ ∀ w : World, (binOp op t x y).run P w = .ok v w := by
  rcases eqW_run h with ⟨rfl, hK⟩ | ⟨rfl, hK⟩
  · refine ⟨_, hK, fun w => ?_⟩
    have : binOp .eql t x y = (do pure (.bool (← Op.equal t x y))) := by
      cases x <;> first | rfl | exact absurd rfl (hx _ _) | exact absurd rfl (hx2 _) | exact absurd rfl (hx3 _ _) | exact absurd rfl (hx4 _ _ _)
    rw [this, Sem.run_bind, he]; rfl
  · refine ⟨_, hK, fun w => ?_⟩
    have : binOp .neq t x y = (do pure (.bool (!(← Op.equal t x y)))) := by
      cases x <;> first | rfl | exact absurd rfl (hx _ _) | exact absurd rfl (hx2 _) | exact absurd rfl (hx3 _ _) | exact absurd rfl (hx4 _ _ _)
    rw [this, Sem.run_bind, he]; rfl

theorem guard_none (op : BinOp) (t : TypeId) (xo yo : Operand) {x : Value} (y : Value) (hx : x ≠ .nilIface) (hx2 : ∀ l, x ≠ .agg l) : eqGuard op t xo yo x y = pure () := by
  cases op <;> (cases x <;> first | rfl | exact absurd rfl hx | exact absurd rfl (hx2 _))

theorem eq_bool_run {t : TypeId} (hu : P.underlying t = some .bool) (a b : Bool) (w : World) : (Op.equal t (.bool a) (.bool b)).run P w = .ok (a == b) w := by
  show (Op.equalIn (9999 + 1) t _ _).run P w = _
  rw [Op.equalIn, Sem.run_bind, run_und hu]; rfl
theorem eq_ptr_run {t e : TypeId} (hu : P.underlying t = some (.pointer e)) (a : Option Addr) (w : World) : (Op.equal t (.pointer a) (.pointer none)).run P w = .ok a.isNone w := by
  show (Op.equalIn (9999 + 1) t _ _).run P w = _
  rw [Op.equalIn, Sem.run_bind, run_und hu]; cases a <;> rfl
theorem eq_slice_run {t e : TypeId} (hu : P.underlying t = some (.slice e)) (a : Option Addr) (n c m k : Nat) (w : World) : (Op.equal t (.slice a n c) (.slice none m k)).run P w = .ok a.isNone w := by
  show (Op.equalIn (9999 + 1) t _ _).run P w = _
  rw [Op.equalIn, Sem.run_bind, run_und hu]; cases a <;> rfl
theorem eq_map_run {t k e : TypeId} (hu : P.underlying t = some (.map k e)) (a : Option Nat) (w : World) : (Op.equal t (.map a) (.map none)).run P w = .ok a.isNone w := by
  show (Op.equalIn (9999 + 1) t _ _).run P w = _
  rw [Op.equalIn, Sem.run_bind, run_und hu]; cases a <;> rfl

theorem bin_run (hT : TabOk P T) {op : BinOp} {t : TypeId} {x y : Value} {w : World} {K : Value → Prop} (h0 : binW P T op t x y w K) :
    ∃ v, K v ∧ ∀ (xo yo : Operand) (w' : World), w'.heap = w.heap → (do eqGuard op t xo yo x y; binOp op t x y : Sem Value).run P w' = .ok v w' := by
  obtain ⟨i, ht, h⟩ := tyW_spec h0
  clear h0
  obtain ⟨info, d, h1, hu, h2, h3, _⟩ := hT.info ht
  have step : ∀ {x y : Value}, x ≠ .nilIface → (∀ l, x ≠ .agg l) → (∃ v, K v ∧ ∀ w : World, (binOp op t x y).run P w = .ok v w) →
      ∃ v, K v ∧ ∀ (xo yo : Operand) (w' : World), w'.heap = w.heap → (do eqGuard op t xo yo x y; binOp op t x y : Sem Value).run P w' = .ok v w' := by
    rintro x y a b ⟨v, hK, hv⟩
    exact ⟨v, hK, fun xo yo w' _ => by rw [guard_none op t xo yo y a b, Sem.run_bind]; exact hv w'⟩
  have rn : ∀ {x y : Value}, (∃ b : Bool, eqlRun P op t x y w b ∧ K (.bool b)) → ∃ v, K v ∧ ∀ (xo yo : Operand) (w' : World), w'.heap = w.heap → (do eqGuard op t xo yo x y; binOp op t x y : Sem Value).run P w' = .ok v w' :=
    fun ⟨b, hr, hK⟩ => ⟨_, hK, hr⟩
  cases hk : i.kd <;> rw [hk] at h h2 <;> simp only at h
  case bool =>
    obtain ⟨a, hx, h4⟩ := onBool_spec h
    clear h; subst hx
    obtain ⟨b, hy, h5⟩ := onBool_spec h4
    clear h4; subst hy
    have := kdOf_bool h2; cases this
    exact step (by simp) (by simp) (eq_run h5 (by simp) (by simp) (by simp) (by simp) (eq_bool_run hu _ _))
  case int k0 =>
    obtain ⟨k, a, hx, h4⟩ := onInt_spec h
    clear h; subst hx
    obtain ⟨k', b, hy, h5⟩ := onInt_spec h4
    clear h4; subst hy
    cases hs : isSh op with
    | true => rw [hs] at h5; exact step (by simp) (by simp) (shiftOp_run t h5)
    | false =>
      rw [hs] at h5
      obtain ⟨rfl, h6⟩ := sameK_spec h5
      exact step (by simp) (by simp) (intOp_run t h6)
  case string =>
    cases x <;> simp only at h <;> try exact h.elim
    cases y <;> simp only at h <;> try exact h.elim
    exact step (by simp) (by simp) (strOp_run t h)
  case ptr e =>
    obtain ⟨a, hx, h4⟩ := onPtr_spec h
    clear h; subst hx
    obtain ⟨b, hy, h5⟩ := onPtr_spec h4
    clear h4; subst hy
    have := kdOf_ptr h2; cases this
    cases b with
    | some b => exact rn h5
    | none => exact step (by simp) (by simp) (eq_run h5 (by simp) (by simp) (by simp) (by simp) (eq_ptr_run hu _))
  case slice e =>
    cases x <;> simp only at h <;> try exact h.elim
    cases y <;> simp only at h <;> try exact h.elim
    rename_i b _ _
    have := kdOf_slice h2; cases this
    cases b with
    | some b => exact h.elim
    | none => exact step (by simp) (by simp) (eq_run h (by simp) (by simp) (by simp) (by simp) (eq_slice_run hu _ _ _ _ _))
  case map k e =>
    obtain ⟨a, hx, h4⟩ := onMap_spec h
    clear h; subst hx
    obtain ⟨b, hy, h5⟩ := onMap_spec h4
    clear h4; subst hy
    have := kdOf_map h2; cases this
    cases b with
    | some b => exact h5.elim
    | none => exact step (by simp) (by simp) (eq_run h5 (by simp) (by simp) (by simp) (by simp) (eq_map_run hu _))
  case struct fs => exact rn h
  case array n e => exact rn h
  case func => exact rn h
  case iface => exact rn h

theorem un_run {op : UnOp} {x : Value} {K : Value → Prop} (h : unW op x K) : ∃ v, K v ∧ ∀ w : World, (Op.unary op x).run P w = .ok v w := by
  cases op <;> simp only [unW] at h <;> try exact h.elim
  case neg => obtain ⟨k, n, rfl, h⟩ := onInt_spec h; exact ⟨_, h, fun w => rfl⟩
  case not => obtain ⟨b, rfl, h⟩ := onBool_spec h; exact ⟨_, h, fun w => rfl⟩

theorem conv_run (hT : TabOk P T) {s d : TypeId} {x : Value} {K : Value → Prop} (h : convW T s d x K) : ∃ v, K v ∧ ∀ w : World, (convert s d x).run P w = .ok v w := by
  obtain ⟨i, hs, h⟩ := tyW_spec h
  obtain ⟨j, hd, h⟩ := tyW_spec h
  obtain ⟨_, us, _, hus, _⟩ := hT.info hs
  obtain ⟨_, ud, _, hud, h2, _⟩ := hT.info hd
  cases x <;> simp only at h <;> try exact h.elim
  case int k n =>
    cases hk : j.kd <;> rw [hk] at h h2 <;> simp only at h <;> try exact h.elim
    rename_i k2
    have := kdOf_int h2; cases this
    refine ⟨_, h, fun w => ?_⟩
    unfold convert
    simp only [Sem.run_bind, run_und hus, run_und hud, Result.andThen]
    cases us <;> rfl
  case string s =>
    cases hk : j.kd <;> rw [hk] at h h2 <;> simp only at h <;> try exact h.elim
    have := kdOf_string h2; cases this
    refine ⟨_, h, fun w => ?_⟩
    unfold convert
    simp only [Sem.run_bind, run_und hus, run_und hud, Result.andThen]
    cases us <;> rfl

theorem idxAddr_run (hT : TabOk P T) {t : TypeId} {x i : Value} {K : Value → Prop} (h : idxAddrW T t x i K) : ∃ v, K v ∧ ∀ w : World, (Instr.indexAt t x i).run P w = .ok v w := by
  obtain ⟨k, n, rfl, h⟩ := onInt_spec h
  obtain ⟨ti, ht, h⟩ := tyW_spec h
  obtain ⟨info, d, h1, hu, h2, h3, _⟩ := hT.info ht
  cases hk : ti.kd <;> rw [hk] at h h2 <;> simp only at h <;> try exact h.elim
  case slice e =>
    have := kdOf_slice h2; cases this
    obtain ⟨te, hte, h⟩ := tyW_spec h
    obtain ⟨info2, d2, g1, gu, g2, g3, _⟩ := hT.info hte
    cases x <;> simp only at h <;> try exact h.elim
    rename_i b len cap
    obtain ⟨hn, h⟩ := h
    obtain ⟨a, rfl, h⟩ := ptrW_spec h
    refine ⟨_, h, fun w => ?_⟩
    simp [Instr.indexAt, asIntOf, run_und hu, Result.andThen, hn, run_size g1, g3]
  case array len e =>
    have := kdOf_array h2; cases this
    obtain ⟨te, hte, h⟩ := tyW_spec h
    obtain ⟨info2, d2, g1, gu, g2, g3, _⟩ := hT.info hte
    obtain ⟨p, rfl, h⟩ := onPtr_spec h
    obtain ⟨a, rfl, h⟩ := ptrW_spec h
    obtain ⟨hn, h⟩ := h
    refine ⟨_, h, fun w => ?_⟩
    simp [Instr.indexAt, asIntOf, run_und hu, Result.andThen, Instr.sureAddr, hn, run_size g1, g3]

theorem bt_get {s : ByteArray} {n : Int} (h : 0 ≤ n ∧ n < (s.size : Int)) : s[n.toNat]?.map (fun b => (b.toNat : Int)) = some (bt s n) := by
  have hn : n.toNat < s.size := by omega
  have hd : n.toNat < s.data.size := hn
  rw [getElem?_pos s n.toNat hn]
  simp only [Option.map_some, Option.some.injEq, bt]
  rw [List.getD_eq_getElem?_getD, Array.getElem?_toList, Array.getElem?_eq_getElem hd]
  rfl

theorem idx_run (hT : TabOk P T) {t : TypeId} {x i : Value} {K : Value → Prop} (h0 : idxW T t x i K) : ∃ v, K v ∧ ∀ w : World, (Instr.index t x i).run P w = .ok v w := by
  obtain ⟨k, n, hi, h00⟩ := onInt_spec h0
  clear h0; subst hi
  obtain ⟨ti, ht, h⟩ := tyW_spec h00
  clear h00
  obtain ⟨info, d, h1, hu, h2, h3, _⟩ := hT.info ht
  cases hk : ti.kd <;> rw [hk] at h h2 <;> simp only at h <;> try exact h.elim
  case string =>
    have := kdOf_string h2; cases this
    cases x <;> simp only at h <;> try exact h.elim
    rename_i s
    obtain ⟨hn, h⟩ := h
    refine ⟨_, h, fun w => ?_⟩
    have hb := bt_get hn
    cases hs : s[n.toNat]? with
    | none => rw [hs] at hb; cases hb
    | some b =>
      rw [hs] at hb
      simp only [Option.map_some, Option.some.injEq] at hb
      simp only [Instr.index, asIntOf, Sem.run_bind, Sem.run_pure, run_und hu, Result.andThen, if_pos hn.1, hs, hb]
  case array len e =>
    have := kdOf_array h2; cases this
    obtain ⟨te, hte, h⟩ := tyW_spec h
    obtain ⟨info2, d2, g1, gu, g2, g3, _⟩ := hT.info hte
    obtain ⟨l, rfl, h⟩ := onAgg_spec h
    obtain ⟨hn, h⟩ := h
    cases hs : te.sh with
    | tup ps => rw [hs] at h; exact h.elim
    | pt p =>
      cases p with
      | agg cs => rw [hs] at h; exact h.elim
      | one c =>
        rw [hs] at h
        obtain ⟨v, hv, hK⟩ := CK.ex_spec h
        have ho := fits_one hT hte hs
        refine ⟨v, hK, fun w => ?_⟩
        simp only [Instr.index, asIntOf, Sem.run_bind, Sem.run_pure, run_und hu, Result.andThen, if_pos hn, run_size g1, g3, ho.2.1, Nat.mul_one]
        unfold part
        rw [Sem.run_bind, run_isAgg hT hte, ho.1]
        simp only [Result.andThen, Bool.false_eq_true, if_false]
        have : (⟨l⟩ : Array Value)[n.toNat]? = some v := by rw [← Array.getElem?_toList]; exact hv
        rw [this]; rfl

theorem len_run (hT : TabOk P T) {t ty : TypeId} {x : Value} {w : World} {K : Value → Prop} (h : lenW T t x w K) : ∃ v, K v ∧ ∀ w', w'.heap = w.heap → (Builtin.len_ #[t] ty #[x]).run P w' = .ok v w' := by
  obtain ⟨ti, ht, h⟩ := tyW_spec h
  obtain ⟨info, d, h1, hu, h2, h3, _⟩ := hT.info ht
  cases hk : ti.kd <;> rw [hk] at h h2 <;> simp only at h <;> try exact h.elim
  case string =>
    have := kdOf_string h2; cases this
    cases x <;> simp only at h <;> try exact h.elim
    exact ⟨_, h, fun w' _ => by simp [Builtin.len_, run_und hu, Result.andThen, goInt]⟩
  case slice e =>
    have := kdOf_slice h2; cases this
    cases x <;> simp only at h <;> try exact h.elim
    exact ⟨_, h, fun w' _ => by simp [Builtin.len_, run_und hu, Result.andThen, goInt]⟩
  case array n e =>
    have := kdOf_array h2; cases this
    exact ⟨_, h, fun w' _ => by simp [Builtin.len_, run_und hu, Result.andThen, goInt]⟩
  case map k e =>
    have := kdOf_map h2; cases this
    obtain ⟨r, rfl, h⟩ := onMap_spec h
    obtain ⟨n, hn, hK⟩ := h
    refine ⟨_, hK, fun w' hw => ?_⟩
    cases r with
    | none => simp only [mapLen] at hn; subst hn; simp [Builtin.len_, run_und hu, Result.andThen, goInt]
    | some b =>
      obtain ⟨es, clk, hb, rfl⟩ := hn
      simp [Builtin.len_, run_und hu, Result.andThen, goInt, getObj, Sem.run, hw, hb]

theorem cap_run (hT : TabOk P T) {t ty : TypeId} {x : Value} {K : Value → Prop} (h : capW T t x K) : ∃ v, K v ∧ ∀ w' : World, (Builtin.cap_ #[t] ty #[x]).run P w' = .ok v w' := by
  obtain ⟨ti, ht, h⟩ := tyW_spec h
  obtain ⟨info, d, h1, hu, h2, h3, _⟩ := hT.info ht
  cases hk : ti.kd <;> rw [hk] at h h2 <;> simp only at h <;> try exact h.elim
  have := kdOf_slice h2; cases this
  cases x <;> simp only at h <;> try exact h.elim
  exact ⟨_, h, fun w' => by simp [Builtin.cap_, run_und hu, Result.andThen, goInt]⟩

theorem bnd_spec {v : Option Value} {d : Int} {X : Int → Prop} (h : bndW v d X) : ∃ n, X n ∧ ((v = none ∧ n = d) ∨ ∃ k, v = some (.int k n)) := by
  cases v with
  | none => exact ⟨d, h, .inl ⟨rfl, rfl⟩⟩
  | some v => obtain ⟨k, n, rfl, h⟩ := onInt_spec h; exact ⟨n, h, .inr ⟨k, rfl⟩⟩

theorem sliceBound_ok {k : IntKind} {n : Int} {y : Nat} {c : BoundsCode} (h : 0 ≤ n ∧ n ≤ y) (w : World) : (Instr.sliceBound (.int k n) y c).run P w = .ok n.toNat w := by
  simp [Instr.sliceBound, asIntOf, h]

theorem sliceBounds_run {isS : Bool} {len cap : Nat} {lo hi mx : Option Value} {l h m : Int} (hl : (lo = none ∧ l = 0) ∨ ∃ k, lo = some (.int k l)) (hh : (hi = none ∧ h = len) ∨ ∃ k, hi = some (.int k h))
    (hm : (mx = none ∧ m = cap) ∨ ∃ k, mx = some (.int k m)) (hx : mx ≠ none → hi ≠ none) (hb : 0 ≤ l ∧ l ≤ h ∧ h ≤ m ∧ m ≤ (cap : Int)) (w : World) :
    (Instr.sliceBounds isS len cap lo hi mx).run P w = .ok (l.toNat, h.toNat, m.toNat) w := by
  have e1 : ((h.toNat : Nat) : Int) = h := by omega
  have e2 : ((m.toNat : Nat) : Int) = m := by omega
  rcases hm with ⟨rfl, rfl⟩ | ⟨km, rfl⟩
  · rcases hh with ⟨rfl, rfl⟩ | ⟨kh, rfl⟩ <;> rcases hl with ⟨rfl, rfl⟩ | ⟨kl, rfl⟩
    all_goals (unfold Instr.sliceBounds; simp only [Sem.run_bind, Sem.run_pure, Result.andThen, Option.isSome_none, Bool.false_eq_true, if_false])
    · simp
    · rw [sliceBound_ok (by omega)]; simp
    · rw [sliceBound_ok (by omega)]; simp
    · rw [sliceBound_ok (by omega)]; simp only []; rw [sliceBound_ok (by omega)]; simp
  · rcases hh with ⟨rfl, _⟩ | ⟨kh, rfl⟩
    · exact absurd rfl (hx (by simp))
    · rcases hl with ⟨rfl, rfl⟩ | ⟨kl, rfl⟩
      all_goals (unfold Instr.sliceBounds; simp only [Sem.run_bind, Sem.run_pure, Result.andThen])
      · rw [sliceBound_ok (by omega)]; simp only []; rw [sliceBound_ok (by omega)]; simp
      · rw [sliceBound_ok (by omega)]; simp only []; rw [sliceBound_ok (by omega)]; simp only []; rw [sliceBound_ok (by omega)]

end
end Go.Proofs.Ytgepmlgkeljelaa.Vc
