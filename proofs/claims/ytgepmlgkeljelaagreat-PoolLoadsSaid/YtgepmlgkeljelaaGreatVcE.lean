/- Equality of structs and arrays; bytes in rows; copies. -/
import Derived.Test.YtgepmlgkeljelaaGreatVcN
import Derived.DeepKeys
import Derived.ChangeKeysEq
import Derived.Laws.StructEq
import Derived.Laws.IdiomCopy
import Derived.Laws.IdiomStrings
import Derived.Lib.LazyBuf
namespace Go.Proofs.YtgepmlgkeljelaaGreat.Vc
open Go

/-! ### '==' on structs and arrays -/
theorem eql_deep {P : Program} {t : TypeId} {m : Nat} (hm : m ≤ 10000) (hk : P.keyTypeAt m t = true) (hg : P.eqGuardType P.depth t = false) (w : World) {xs ys : Array Value} {D D' : Nat} {la lb : List Lit}
    (fx : (Value.agg xs).formed P t = true) (fy : (Value.agg ys).formed P t = true) (h1 : P.keyLits D t xs.toList = some la) (h2 : P.keyLits D' t ys.toList = some lb) :
    ∃ r : Bool, eqlRun P .eql t (.agg xs) (.agg ys) w r ∧ eqlRun P .neq t (.agg xs) (.agg ys) w (!r) ∧ (r = true ↔ la = lb) := by
  have key : ∀ w' : World, ∃ r : Bool, (Op.equal t (.agg xs) (.agg ys)).run P w' = .ok r w' ∧ (r = true ↔ la = lb) := fun w' => by
    obtain ⟨r, hr, hi⟩ := run_equalIn_deep (10000 - m) m t hk w' D D' (.agg xs) (.agg ys) la lb fx fy h1 h2
    rw [show 10000 - m + m = 10000 by omega] at hr
    exact ⟨r, hr, hi⟩
  have gd : ∀ (op : BinOp) (xo yo : Operand) (w' : World), (eqGuard op t xo yo (.agg xs) (.agg ys)).run P w' = .ok () w' := fun op xo yo w' => by
    have hg' : (do if !(← program).eqGuardType (← program).depth t then return
                   if ← Op.eqGuardIn Op.maxDepth t (.agg xs) (.agg ys) then unsupported (.noEntry "binop/eql: two nil values of an interface type with methods, in a part of a struct or an array") : Sem Unit).run P w' = .ok () w' := by
      simp [hg, Result.andThen]
    cases op <;> first | rfl | exact hg'
  obtain ⟨r, _, hi⟩ := key w
  have uni : ∀ w', (Op.equal t (.agg xs) (.agg ys)).run P w' = .ok r w' := fun w' => by
    obtain ⟨r', hr', hi'⟩ := key w'
    have : r' = r := by
      cases r' <;> cases r <;> simp_all
    rw [this] at hr'; exact hr'
  refine ⟨r, fun xo yo w' _ => ?_, fun xo yo w' _ => ?_, hi⟩
  · rw [Sem.run_bind, gd]
    simp only [Result.andThen]
    have : binOp .eql t (.agg xs) (.agg ys) = (do pure (.bool (← Op.equal t (.agg xs) (.agg ys)))) := rfl
    rw [this, Sem.run_bind, uni]; rfl
  · rw [Sem.run_bind, gd]
    simp only [Result.andThen]
    have : binOp .neq t (.agg xs) (.agg ys) = (do pure (.bool (!(← Op.equal t (.agg xs) (.agg ys))))) := rfl
    rw [this, Sem.run_bind, uni]; rfl

/-- Two values of a plain type that '==' compares. -/
def EqOne (P : Program) (t : TypeId) (u v : Value) : Prop :=
  (∃ k k' a b, P.underlying t = some (.int k') ∧ u = .int k a ∧ v = .int k b) ∨ (∃ a b, P.underlying t = some .string ∧ u = .string a ∧ v = .string b) ∨ ∃ a b, P.underlying t = some .bool ∧ u = .bool a ∧ v = .bool b
theorem EqOne.run {P : Program} {t : TypeId} {u v : Value} (h : EqOne P t u v) (d : Nat) (w : World) : ∃ r : Bool, (Op.equalIn (d + 1) t u v).run P w = .ok r w ∧ (r = true ↔ u = v) := by
  rcases h with ⟨k, k', a, b, hu, rfl, rfl⟩ | ⟨a, b, hu, rfl, rfl⟩ | ⟨a, b, hu, rfl, rfl⟩
  · exact ⟨a == b, run_equalIn_int w d t k k' a b hu, by simp⟩
  · exact ⟨a.toList == b.toList, run_equalIn_string w d t a b hu, by rw [← beq_toListBytes]; simp [(MapKept.bytes_beq a b)]⟩
  · exact ⟨a == b, run_equalIn_bool' w d t a b hu, by simp⟩
theorem EqOne.plain {P : Program} {t : TypeId} {u v : Value} (h : EqOne P t u v) : P.plainKey t = true := by
  rcases h with ⟨_, _, _, _, hu, _⟩ | ⟨_, _, hu, _⟩ | ⟨_, _, hu, _⟩ <;> simp [Program.plainKey, hu]
theorem run_eqFields_plain {P : Program} (d : Nat) (xs ys : Array Value) (w : World) : ∀ (fs : List Field) (L : List (Bool × Nat × TypeId)), fs.map (fun f => (f.name != "_", f.offset, f.type)) = L →
    (∀ x ∈ L, x.1 = true ∧ ∃ u v, xs[x.2.1]? = some u ∧ ys[x.2.1]? = some v ∧ EqOne P x.2.2 u v) →
    ∃ r : Bool, (Op.eqFields (d + 1) xs ys fs).run P w = .ok r w ∧ (r = true ↔ ∀ x ∈ L, xs[x.2.1]? = ys[x.2.1]?)
  | [], _, rfl, _ => ⟨true, rfl, by simp⟩
  | f :: fs, _, rfl, h => by
    obtain ⟨h1, u, v, hx, hy, he⟩ := h _ (List.mem_cons_self ..)
    obtain ⟨r, hr, hi⟩ := run_eqFields_plain d xs ys w fs _ rfl fun x hx => h x (List.mem_cons_of_mem _ hx)
    obtain ⟨r0, hr0, hi0⟩ := he.run d w
    have hn : f.name ≠ "_" := by simpa using h1
    simp only [Op.eqFields, if_pos hn, Sem.run_bind, run_part_plain w he.plain hx, run_part_plain w he.plain hy, Result.andThen_ok, hr0]
    cases r0 with
    | false =>
      refine ⟨false, by simp, ?_⟩
      have : ¬ u = v := fun e => by rw [← hi0] at e; cases e
      simp only [Bool.false_eq_true, false_iff, List.map_cons, List.mem_cons, forall_eq_or_imp]
      simp only at hx hy
      rintro ⟨e, _⟩
      rw [hx, hy] at e
      exact this (Option.some.inj e)
    | true =>
      refine ⟨r, by simpa using hr, ?_⟩
      have : u = v := hi0.1 rfl
      rw [hi]
      simp only [List.map_cons, List.mem_cons, forall_eq_or_imp]
      simp only at hx hy
      rw [hx, hy, this]; simp
theorem eql_plain {P : Program} {t : TypeId} (ht : P.underlying t = some (.struct (P.fieldsOf t))) (hp : P.stoodInHeld t = false) (hg : P.eqGuardType P.depth t = false) {xs ys : Array Value} (w : World) {L : List (Bool × Nat × TypeId)} (hfs : (P.fieldsOf t).toList.map (fun f => (f.name != "_", f.offset, f.type)) = L)
    (hL : ∀ x ∈ L, x.1 = true ∧ ∃ u v, xs[x.2.1]? = some u ∧ ys[x.2.1]? = some v ∧ EqOne P x.2.2 u v) :
    ∃ r : Bool, eqlRun P .eql t (.agg xs) (.agg ys) w r ∧ eqlRun P .neq t (.agg xs) (.agg ys) w (!r) ∧ (r = true ↔ ∀ x ∈ L, xs[x.2.1]? = ys[x.2.1]?) := by
  have key : ∀ w' : World, ∃ r : Bool, (Op.equal t (.agg xs) (.agg ys)).run P w' = .ok r w' ∧ (r = true ↔ ∀ x ∈ L, xs[x.2.1]? = ys[x.2.1]?) := fun w' => by
    obtain ⟨r, hr, hi⟩ := run_eqFields_plain (P := P) 9998 xs ys w' _ L hfs hL
    exact ⟨r, (run_equalIn_struct w' 9999 t xs ys ht hp).trans hr, hi⟩
  have gd : ∀ (op : BinOp) (xo yo : Operand) (w' : World), (eqGuard op t xo yo (.agg xs) (.agg ys)).run P w' = .ok () w' := fun op xo yo w' => by
    have hg' : (do if !(← program).eqGuardType (← program).depth t then return
                   if ← Op.eqGuardIn Op.maxDepth t (.agg xs) (.agg ys) then unsupported (.noEntry "binop/eql: two nil values of an interface type with methods, in a part of a struct or an array") : Sem Unit).run P w' = .ok () w' := by
      simp [hg, Result.andThen]
    cases op <;> first | rfl | exact hg'
  obtain ⟨r, _, hi⟩ := key w
  have uni : ∀ w', (Op.equal t (.agg xs) (.agg ys)).run P w' = .ok r w' := fun w' => by
    obtain ⟨r', hr', hi'⟩ := key w'
    have : r' = r := Bool.eq_iff_iff.2 (hi'.trans hi.symm)
    rw [this] at hr'; exact hr'
  refine ⟨r, fun xo yo w' _ => ?_, fun xo yo w' _ => ?_, hi⟩
  · rw [Sem.run_bind, gd]
    simp only [Result.andThen]
    have : binOp .eql t (.agg xs) (.agg ys) = (do pure (.bool (← Op.equal t (.agg xs) (.agg ys)))) := rfl
    rw [this, Sem.run_bind, uni]; rfl
  · rw [Sem.run_bind, gd]
    simp only [Result.andThen]
    have : binOp .neq t (.agg xs) (.agg ys) = (do pure (.bool (!(← Op.equal t (.agg xs) (.agg ys))))) := rfl
    rw [this, Sem.run_bind, uni]; rfl

theorem mapM_some {α β : Type} {f : α → Option β} {g : α → β} : ∀ {l : List α}, (∀ x ∈ l, f x = some (g x)) → l.mapM f = some (l.map g)
  | [], _ => by simp
  | x :: l, h => by simp [h x (by simp), mapM_some (l := l) fun y hy => h y (by simp [hy])]

theorem flatMap_one {α β : Type} (h : α → β) : ∀ l : List α, (l.flatMap fun i => [h i]) = l.map h
  | [] => rfl
  | a :: l => by simp [List.flatMap_cons, flatMap_one h l]

abbrev u8v (b : UInt8) : Value := .int .u8 (b.toNat : Int)

theorem keyLits_bytes {P : Program} {t e : TypeId} {n : Nat} (hu : P.underlying t = some (.array n e)) (he : P.underlying e = some (.int .u8)) (hc : P.cellsOf e = 1) (hct : P.cellsOf t = n) {l : List UInt8} (hl : l.length = n) :
    P.keyLits 2 t (l.map u8v) = some (l.map fun b => Lit.int .u8 (b.toNat : Int)) := by
  have h1 : ∀ i ∈ List.range n, P.keyLits 1 e (((l.map u8v).drop (i * P.cellsOf e)).take (P.cellsOf e)) = some [Lit.int .u8 (((l[i]?.getD 0)).toNat : Int)] := by
    intro i hi
    have hi : i < l.length := by rw [hl]; simpa using hi
    rw [hc, Nat.mul_one]
    have : ((l.map u8v).drop i).take 1 = [u8v l[i]] := by
      rw [← List.map_drop, ← List.map_take, List.take_one]
      simp [List.head?_drop, List.getElem?_eq_getElem hi]
    rw [this, List.getElem?_eq_getElem hi]
    have hb : (l[i].toNat : Int) < 256 := by have := l[i].toNat_lt; omega
    have hw : (Lit.int .u8 (l[i].toNat : Int)).wf = true := by
      simp [Lit.wf, IntKind.min, IntKind.max, IntKind.bits, IntKind.signed]; omega
    simp [Program.keyLits, he, hw]
  show (match P.underlying t, l.map u8v with | _, _ => _) = _
  unfold Program.keyLits
  rw [hu]
  simp only [List.length_map, hl, hct, if_true, mapM_some h1, Option.map_some]
  congr 1
  apply List.ext_getElem?
  intro i
  rw [← List.flatMap_def]
  have e2 : (List.range n).flatMap (fun i => [Lit.int .u8 (((l[i]?.getD 0)).toNat : Int)]) = (List.range n).map fun i => Lit.int .u8 (((l[i]?.getD 0)).toNat : Int) := by
    exact flatMap_one _ _
  rw [e2, List.getElem?_map, List.getElem?_map]
  by_cases hi : i < n
  · simp [List.getElem?_range hi, List.getElem?_eq_getElem (show i < l.length by omega)]
  · simp [List.getElem?_eq_none (show (List.range n).length ≤ i by simpa using hi), List.getElem?_eq_none (show l.length ≤ i by omega)]

theorem eql_bytes {P : Program} {t e : TypeId} {n : Nat} (hk : P.keyTypeAt 2 t = true) (hg : P.eqGuardType P.depth t = false) (hu : P.underlying t = some (.array n e)) (he : P.underlying e = some (.int .u8)) (hc : P.cellsOf e = 1) (hct : P.cellsOf t = n) (w : World) {l k : List UInt8} (hl : l.length = n) (hl2 : k.length = n) :
    eqlRun P .neq t (.agg ⟨l.map u8v⟩) (.agg ⟨k.map u8v⟩) w (!decide (l = k)) := by
  have fo : ∀ {l : List UInt8}, l.length = n → (Value.agg ⟨l.map u8v⟩).formed P t = true := fun h => by simp [Value.formed, hu, hct, h]
  obtain ⟨r, _, h2, hi⟩ := eql_deep (by omega) hk hg w (fo hl) (fo hl2) (keyLits_bytes hu he hc hct hl) (keyLits_bytes hu he hc hct hl2)
  have : r = decide (l = k) := by
    have hi2 : r = true ↔ l = k := hi.trans ⟨fun h => ?_, fun h => by rw [h]⟩
    · cases r <;> simp_all
    · have inj : Function.Injective fun b : UInt8 => Lit.int .u8 (b.toNat : Int) := fun a b h => by
        simp only [Lit.int.injEq, true_and] at h
        exact UInt8.toNat_inj.1 (by omega)
      exact (List.map_inj_right fun a b h => inj h).1 h
  rw [← this]; exact h2

/-! ### Parts of a row -/
theorem putL_mid : ∀ (vs B A C : List Value), B.length = vs.length → putL (A ++ B ++ C) A.length vs = A ++ vs ++ C
  | [], [], A, C, _ => rfl
  | v :: vs, b :: B, A, C, h => by
    show putL ((A ++ (b :: B) ++ C).set A.length v) (A.length + 1) vs = _
    have := putL_mid vs B (A ++ [v]) C (by simpa using h)
    rw [show ((A ++ (b :: B) ++ C).set A.length v) = (A ++ [v]) ++ B ++ C by simp [List.set_append], show A.length + 1 = (A ++ [v]).length by simp, this]
    simp
theorem putL_length : ∀ (vs xs : List Value) (i : Nat), (putL xs i vs).length = xs.length
  | [], _, _ => rfl
  | _ :: vs, xs, i => by show (putL (xs.set i _) (i + 1) vs).length = _; rw [putL_length vs]; simp

section
variable {W0 w : World} {S0 : Foot} {l : List Asrt} {e : TypeId} {sz n c g o : Nat}

/-- A part of a row is written, cell by cell. -/
theorem Own.storeRow : ∀ {vs xs : List Value} {j i : Nat} {w : World} {K : World → Prop}, Own W0 S0 (.sl e sz (some ⟨g, o, none⟩) n c xs :: l) w → j + i + vs.length ≤ xs.length → (∀ v ∈ vs, v.oneCell' = true) →
    (∀ u, Own W0 S0 (.sl e sz (some ⟨g, o, none⟩) n c (putL xs (j + i) vs) :: l) u → K u) → storeW vs ⟨g, j, none⟩ i K w
  | [], xs, j, i, w, K, H, _, _, hk => hk w H
  | v :: vs, xs, j, i, w, K, H, hl, h1, hk => by
    have e0 : (⟨g, j, none⟩ : Addr).add i = ⟨g, j + i, none⟩ := add_mk _ _ _
    show (∃ u, w.cell? ((⟨g, j, none⟩ : Addr).add i) = some u) ∧ w.frozen? ((⟨g, j, none⟩ : Addr).add i) = false ∧ oneW v _
    have ho : ∀ X : Prop, X → oneW v X := fun X hX => by
      have := h1 v (by simp)
      cases v <;> first | exact hX | cases this
    rw [e0]
    obtain ⟨h2, h3, h4⟩ := Own.setRow (v := v) (K := fun u => storeW vs ⟨g, j, none⟩ (i + 1) K u) H (j := j + i) (by simp at hl; omega) (fun u H' => Own.storeRow (j := j) (i := i + 1) H' (by simp at hl ⊢; omega) (fun x hx => h1 x (by simp [hx])) fun u H2 => hk u (by
      rw [show j + (i + 1) = j + i + 1 by omega] at H2
      exact H2))
    exact ⟨h2, h3, ho _ h4⟩

/-- .. at once. -/
theorem Own.setCells : ∀ {vs xs : List Value} {j : Nat} {w : World}, Own W0 S0 (.sl e sz (some ⟨g, o, none⟩) n c xs :: l) w → j + vs.length ≤ xs.length →
    Own W0 S0 (.sl e sz (some ⟨g, o, none⟩) n c (putL xs j vs) :: l) (w.setCells g j vs)
  | [], _, _, _, H, _ => H
  | v :: vs, xs, j, w, H, hl => by
    have h := (Own.setRow (v := v) (K := fun u => Own W0 S0 (.sl e sz (some ⟨g, o, none⟩) n c (xs.set j v) :: l) u) H (j := j) (by simp at hl; omega) fun u H => H).2.2
    exact Own.setCells (j := j + 1) h (by simp at hl ⊢; omega)

theorem Own.rowCell {xs : List Value} (H : Own W0 S0 (.sl e sz (some ⟨g, o, none⟩) n c xs :: l) w) {j : Nat} {v : Value} (hj : xs[j]? = some v) : w.cell? (⟨g, j, none⟩ : Addr) = some v := by
  obtain ⟨_, h⟩ := H.has i0
  exact (h.2.cell hj).2
theorem Own.rowFree {xs : List Value} (H : Own W0 S0 (.sl e sz (some ⟨g, o, none⟩) n c xs :: l) w) {j : Nat} (hj : j < xs.length) : w.frozen? (⟨g, j, none⟩ : Addr) = false :=
  (Own.setRow (v := .bool true) (K := fun _ => True) H hj fun _ _ => trivial).2.1
theorem Own.rowCells : ∀ {vs A C : List Value}, Own W0 S0 (.sl e sz (some ⟨g, o, none⟩) n c (A ++ vs ++ C) :: l) w → ∀ {j : Nat}, j = A.length → cellsAt w ⟨g, j, none⟩ 0 vs := by
  have go : ∀ (vs : List Value) (i j : Nat), (∀ k v, vs[k]? = some v → w.cell? (⟨g, j + i + k, none⟩ : Addr) = some v) → cellsAt w ⟨g, j, none⟩ i vs := by
    intro vs
    induction vs with
    | nil => exact fun _ _ _ => trivial
    | cons v vs ih =>
      intro i j h
      refine ⟨by rw [add_mk]; exact h 0 v rfl, ih (i + 1) j fun k x hx => ?_⟩
      rw [show j + (i + 1) + k = j + i + (k + 1) by omega]
      exact h (k + 1) x hx
  intro vs A C H j hj
  subst hj
  refine go vs 0 _ fun k v hv => H.rowCell ?_
  have hk := (List.getElem?_eq_some_iff.1 hv).1
  rw [Nat.add_zero, List.append_assoc, List.getElem?_append_right (by omega), show A.length + k - A.length = k by omega, List.getElem?_append_left hk]
  exact hv

/-- copy(dst, s), dst and s in the same row. -/
theorem Own.copyRow {P : Program} {dT sT ty : TypeId} {A B C X Y vs : List Value} {el : TypeId} (H : Own W0 S0 (.sl e sz (some ⟨g, o, none⟩) n c (A ++ B ++ C) :: l) w) (hu : P.underlying dT = some (.slice el)) (hs : (P.info? el).map (·.size) = some 1)
    (hv : X ++ vs ++ Y = A ++ B ++ C) {d s : Nat} (hd : d = A.length) (hx : s = X.length) {dLen dCap sLen sCap : Nat} (hn : vs.length = Nat.min sLen dLen) (hb : B.length = vs.length) (h1 : ∀ v ∈ vs, v.oneCell' = true) :
    ∃ u, (Builtin.copy_ ⟨[dT, sT]⟩ ty ⟨[.slice (some ⟨g, d, none⟩) dLen dCap, .slice (some ⟨g, s, none⟩) sLen sCap]⟩).run P w = .ok (.int .i64 vs.length) u ∧ Own W0 S0 (.sl e sz (some ⟨g, o, none⟩) n c (A ++ vs ++ C) :: l) u := by
  subst hd hx
  refine ⟨_, run_copy_cells w dT sT ty el g A.length dLen dCap ⟨g, X.length, none⟩ sLen sCap vs hu hs hn (fun j v hj => ?_) (fun j hj => ?_) (fun j hj => ?_) h1, ?_⟩
  · rw [add_mk]
    refine H.rowCell ?_
    have hk := (List.getElem?_eq_some_iff.1 hj).1
    rw [← hv, List.append_assoc, List.getElem?_append_right (by omega), show X.length + j - X.length = j by omega, List.getElem?_append_left hk]
    exact hj
  · have : A.length + j < (A ++ B ++ C).length := by simp; omega
    rw [H.rowCell (List.getElem?_eq_getElem this)]; rfl
  · exact H.rowFree (by simp; omega)
  · have := Own.setCells (j := A.length) (vs := vs) H (by simp; omega)
    rw [putL_mid vs B A C hb] at this
    exact this

theorem Own.copyString {P : Program} {dT sT ty : TypeId} {A B C : List Value} {el : TypeId} {s : ByteArray} (H : Own W0 S0 (.sl e sz (some ⟨g, o, none⟩) n c (A ++ B ++ C) :: l) w) (hu : P.underlying dT = some (.slice el)) (hz : ∀ w, (Go.sizeOf el).run P w = .ok 1 w)
    {d : Nat} (hd : d = A.length) {dLen dCap : Nat} (hn : s.size ≤ dLen) (hb : B.length = s.size) :
    ∃ u, (Builtin.copy_ ⟨[dT, sT]⟩ ty ⟨[.slice (some ⟨g, d, none⟩) dLen dCap, .string s]⟩).run P w = .ok (.int .i64 s.size) u ∧ Own W0 S0 (.sl e sz (some ⟨g, o, none⟩) n c (A ++ s.data.toList.map u8v ++ C) :: l) u := by
  subst hd
  have hls : (s.data.toList.map u8v).length = s.size := by rw [List.length_map]; rfl
  refine ⟨_, run_copy_string w dT sT ty el g A.length dLen dCap s hu hz hn (fun j hj => ?_) (fun j hj => ?_), ?_⟩
  · have : A.length + j < (A ++ B ++ C).length := by simp; omega
    rw [H.rowCell (List.getElem?_eq_getElem this)]; rfl
  · exact H.rowFree (by simp; omega)
  · have := Own.setCells (j := A.length) (vs := s.data.toList.map u8v) H (by simp only [List.length_append, hls]; omega)
    rw [putL_mid _ B A C (by rw [hls]; exact hb)] at this
    exact this

/-- string(b), b a part of a row of bytes. -/
theorem Own.toString {P : Program} {src dst el : TypeId} {A C : List Value} {bs : List UInt8} (H : Own W0 S0 (.sl e sz (some ⟨g, o, none⟩) n c (A ++ bs.map u8v ++ C) :: l) w) (hs : P.underlying src = some (.slice el)) (he : P.underlying el = some (.int .u8)) (hd : P.underlying dst = some .string)
    {d : Nat} (hd2 : d = A.length) {len cap : Nat} (hl : len = bs.length) : (convert src dst (.slice (some ⟨g, d, none⟩) len cap)).run P w = .ok (.string ⟨bs.toArray⟩) w := by
  subst hd2 hl
  refine run_convert_bytes_back w src dst el ⟨g, A.length, none⟩ cap bs hs he hd fun j hj => ?_
  rw [add_mk]
  refine H.rowCell ?_
  rw [List.append_assoc, List.getElem?_append_right (by omega), show A.length + j - A.length = j by omega, List.getElem?_append_left (by simpa using hj)]
  simp [List.getElem?_eq_getElem hj]
end

end Go.Proofs.YtgepmlgkeljelaaGreat.Vc
