/- Making rows, writing into them; bits of a word. -/
import Derived.Test.YtgepmlgkeljelaaGreatVcH
namespace Go.Proofs.YtgepmlgkeljelaaGreat.Vc
open Go

theorem wrapU64 {n : Int} (h1 : 0 ≤ n) (h2 : n < 18446744073709551616) : IntKind.wrap .u64 n = n := by
  show (if false && decide (n % 18446744073709551616 ≥ 9223372036854775808) then n % 18446744073709551616 - 18446744073709551616 else n % 18446744073709551616) = n
  simp only [Bool.false_and, Bool.false_eq_true, if_false]
  omega

theorem callV.mono {P : Program} {Bd : FuncId → Bool} {v : Value} {args : List Value} {w : World} {R R' : Ending → World → Prop} (h : callV P Bd v args w R) (hR : ∀ e w', R e w' → R' e w') : callV P Bd v args w R' := by
  unfold callV at h ⊢
  split at h
  · rename_i g first caps
    obtain ⟨h1, h2⟩ := bW_spec h
    show bW (Bd g) _
    rw [h1]
    exact h2.mono hR
  · rename_i l first caps
    cases first with
    | nil =>
      obtain ⟨f, tmps, x, y, h1, h2⟩ := h
      exact ⟨f, tmps, x, y, h1, h2.mono hR⟩
    | cons a r => exact h.elim
  · exact h.elim

/-! ### Lists as they come of calls -/
instance (priority := high) HasAt.nilApp {b : Nat} {o : Obj} {l : List Asrt} [h : HasAt b l o] : HasAt b ([] ++ l) o := h
instance (priority := high) HasAt.consApp {b : Nat} {o : Obj} {A : Asrt} {l1 l2 : List Asrt} [h : HasAt b (A :: (l1 ++ l2)) o] : HasAt b ((A :: l1) ++ l2) o := h
instance (priority := high) HasAt.appApp {b : Nat} {o : Obj} {l1 l2 l3 : List Asrt} [h : HasAt b (l1 ++ (l2 ++ l3)) o] : HasAt b ((l1 ++ l2) ++ l3) o := by rw [List.append_assoc]; exact h
instance (priority := high) SetAt.nilApp {b : Nat} {o : Obj} {l l' : List Asrt} [h : SetAt b o l l'] : SetAt b o ([] ++ l) l' := h
instance (priority := high) SetAt.consApp {b : Nat} {o : Obj} {A : Asrt} {l1 l2 l' : List Asrt} [h : SetAt b o (A :: (l1 ++ l2)) l'] : SetAt b o ((A :: l1) ++ l2) l' := h
instance (priority := high) SetAt.appApp {b : Nat} {o : Obj} {l1 l2 l3 l' : List Asrt} [h : SetAt b o (l1 ++ (l2 ++ l3)) l'] : SetAt b o ((l1 ++ l2) ++ l3) l' := by rw [List.append_assoc]; exact h

instance (priority := high) HasAt.nilApp' {b : Nat} {o : Obj} {l : List Asrt} [h : HasAt b l o] : HasAt b (List.append [] l) o := h
instance (priority := high) HasAt.consApp' {b : Nat} {o : Obj} {A : Asrt} {l1 l2 : List Asrt} [h : HasAt b (A :: (l1 ++ l2)) o] : HasAt b (List.append (A :: l1) l2) o := h
instance (priority := high) SetAt.nilApp' {b : Nat} {o : Obj} {l l' : List Asrt} [h : SetAt b o l l'] : SetAt b o (List.append [] l) l' := h
instance (priority := high) SetAt.consApp' {b : Nat} {o : Obj} {A : Asrt} {l1 l2 l' : List Asrt} [h : SetAt b o (A :: (l1 ++ l2)) l'] : SetAt b o (List.append (A :: l1) l2) l' := h
instance (priority := low) HasAt.right {b : Nat} {o : Obj} {l1 l2 : List Asrt} [h : HasAt b l2 o] : HasAt b (l1 ++ l2) o := ⟨List.mem_append.2 (.inr h.mem)⟩
instance (priority := low) SetAt.right {b : Nat} {o : Obj} {l1 l2 l2' : List Asrt} [h : SetAt b o l2 l2'] : SetAt b o (l1 ++ l2) (l1 ++ l2') := ⟨by
  rintro w u S hs
  obtain ⟨S1, S2, h1, h2, hd, he⟩ := hs.split
  obtain ⟨hb, hk⟩ := h.pf (u := u) h2
  refine ⟨(he b).2 (.inr hb), fun k => ((h1.loc (fun g hg => k.keep.block g (h1.lt hg) fun e => hd g hg (by rw [show g = b from e]; exact hb)) k.keep.size).append (hk k) hd).congr he⟩⟩

/-! ### Bits -/
theorem ofInt_nat {x : Nat} (h : x < 2 ^ 64) : (BitVec.ofInt 64 (x : Int)).toNat = x := by
  rw [BitVec.toNat_ofInt]
  have : ((x : Int) % ((2 ^ 64 : Nat) : Int)).toNat = x := by
    rw [Int.emod_eq_of_lt (Int.natCast_nonneg _) (Int.ofNat_lt.2 h)]; rfl
  exact this
theorem bits_and {x y : Nat} (hx : x < 2 ^ 64) (hy : y < 2 ^ 64) : bits .and .u64 (x : Int) (y : Int) = ((x &&& y : Nat) : Int) := by
  have h : (BitVec.ofInt 64 (x : Int) &&& BitVec.ofInt 64 (y : Int)).toNat = x &&& y := by rw [BitVec.toNat_and, ofInt_nat hx, ofInt_nat hy]
  have hl : x &&& y < 2 ^ 64 := Nat.lt_of_le_of_lt Nat.and_le_left hx
  have := wrapU64 (n := ((x &&& y : Nat) : Int)) (Int.natCast_nonneg _) (Int.ofNat_lt.2 hl)
  rw [← h] at this ⊢
  exact this
theorem bits_or {x y : Nat} (hx : x < 2 ^ 64) (hy : y < 2 ^ 64) : bits .or .u64 (x : Int) (y : Int) = ((x ||| y : Nat) : Int) := by
  have h : (BitVec.ofInt 64 (x : Int) ||| BitVec.ofInt 64 (y : Int)).toNat = x ||| y := by rw [BitVec.toNat_or, ofInt_nat hx, ofInt_nat hy]
  have hl : x ||| y < 2 ^ 64 := Nat.or_lt_two_pow hx hy
  have := wrapU64 (n := ((x ||| y : Nat) : Int)) (Int.natCast_nonneg _) (Int.ofNat_lt.2 hl)
  rw [← h] at this ⊢
  exact this
theorem and_pow (x k : Nat) : (x &&& 2 ^ k = 0) ↔ x.testBit k = false := by
  constructor
  · intro h
    have : (x &&& 2 ^ k).testBit k = false := by rw [h]; simp
    simpa [Nat.testBit_and, Nat.testBit_two_pow_self] using this
  · intro h
    apply Nat.eq_of_testBit_eq
    intro i
    rw [Nat.testBit_and, Nat.testBit_two_pow, Nat.zero_testBit]
    by_cases e : k = i
    · subst e; simp [h]
    · simp [e]

/-! ### make -/
theorem makeSlice_own {P : Program} {w : World} {t e : TypeId} {sz bytes : Nat} {z : Value} (ht : P.underlying t = some (.slice e))
    (hi : (P.info? e).map (fun i => (i.zero, i.size, i.bytes)) = some (some z, sz, bytes)) (hz : z.cells.size = sz) (hpos : 0 < sz)
    {l c : Int} {ln cn : Nat} (hl : l = ln) (hc : c = cn) (hlc : ln ≤ cn) (hb : cn * bytes ≤ 140737488355328) (hm : cn ≤ 9223372036854775807) :
    ∃ u, (Instr.makeSlice t (.int .i64 l) (.int .i64 c)).run P w = .ok (.slice (some ⟨w.heap.size, 0, none⟩) ln cn) u ∧ New w (.cells ((Array.range (cn * sz)).map (z.cells[· % sz]!)) e) u := by
  subst hl hc
  cases hinf : P.info? e with
  | none => rw [hinf] at hi; cases hi
  | some i =>
    rw [hinf] at hi
    simp only [Option.map_some, Option.some.injEq, Prod.mk.injEq] at hi
    obtain ⟨h1, h2, h3⟩ := hi
    have wl : IntKind.i64.wrap (ln : Int) = ln := wrap64 (by omega) (by omega)
    have wc : IntKind.i64.wrap (cn : Int) = cn := wrap64 (by omega) (by omega)
    have n1 : ¬ (cn : Int) < 0 := by omega
    have hbz : (bytes : Int) * cn ≤ 140737488355328 := by rw [Int.mul_comm]; exact Int.ofNat_le.2 hb
    have n2 : ¬ (281474976710656 < (bytes : Int) * cn) := by omega
    have n3 : ¬ (ln : Int) < 0 := by omega
    have n4 : ¬ (cn : Int) < ln := by omega
    have n5 : ¬ (140737488355328 < cn * bytes) := by omega
    have n6 : cn * sz = 0 ↔ cn = 0 := by
      constructor
      · intro h; exact (Nat.mul_eq_zero.1 h).resolve_right (by omega)
      · rintro rfl; simp
    refine ⟨w.alloc (.cells ((Array.range (cn * sz)).map (z.cells[· % sz]!)) e), ?_, New.mk' _ _⟩
    by_cases h0 : cn = 0
    · subst h0
      have : ln = 0 := by omega
      subst this
      have e0 : ∀ f : Nat → Value, (Array.range 0).map f = #[] := fun f => by apply Array.toList_inj.1; simp
      simp [Instr.makeSlice, run_underlying ht, sizeOf, typeInfo, hinf, h2, h3, asInt, asIntOf, askRoom, newRow, roomBytes, Result.andThen, IntKind.wrap_i64, e0]
    · simp [Instr.makeSlice, run_underlying ht, sizeOf, typeInfo, hinf, h1, h2, h3, asInt, asIntOf, wl, wc, n1, n2, n3, n4, n5, n6, h0, zeroValue, hz, askRoom, newRow, roomBytes, Result.andThen]

/-! ### Writing a row's cell -/
theorem sl_set {w : World} {e : TypeId} {sz n c : Nat} {g o : Nat} {xs : List Value} (h : Sl w e sz (some ⟨g, o, none⟩) n c xs) {j : Nat} {v : Value} (hj : j < xs.length) {K : World → Prop}
    (hk : ∀ u, Sl u e sz (some ⟨g, o, none⟩) n c (xs.set j v) → Keep (Blk (some ⟨g, o, none⟩)) w u → u.heap.size = w.heap.size → K u) :
    (∃ old, w.cell? (⟨g, j, none⟩ : Addr) = some old) ∧ w.frozen? (⟨g, j, none⟩ : Addr) = false ∧ letW (w.setCell (⟨g, j, none⟩ : Addr) v) K := by
  rcases h.cases' with ⟨h1, _⟩ | ⟨g', cur, h1, h2, h3, h4, h5, h6⟩
  · cases h1
  · cases h1
    have hl := h.length
    have hs : j < cur.size := by rw [h5]; have := Nat.mul_le_mul_right sz h3; omega
    have e0 : (⟨g, j, none⟩ : Addr) = (⟨g, 0, none⟩ : Addr).add j := by rw [add_mk, Nat.zero_add]
    rw [e0]
    refine store_step h2 (by omega) fun u s => hk u ?_ ?_ s.size
    · have : xs.set j v = ((cur.setIfInBounds (0 + j) v).toList.take (n * sz)) := by
        rw [← h6, Nat.zero_add, Array.toList_setIfInBounds, List.take_set]
      rw [this]
      exact Sl.mk' s.at_ h3 h4 (by simp [h5])
    · exact s.keep.mono fun b _ hb => ⟨_, rfl, (show b = g from hb).symm⟩

/-- A row at the front of what is held. -/
theorem Own.setRow {W0 w : World} {S0 : Foot} {l : List Asrt} {e : TypeId} {sz n c : Nat} {g o : Nat} {xs : List Value} (H : Own W0 S0 (.sl e sz (some ⟨g, o, none⟩) n c xs :: l) w) {j : Nat} {v : Value} (hj : j < xs.length) {K : World → Prop}
    (hk : ∀ u, Own W0 S0 (.sl e sz (some ⟨g, o, none⟩) n c (xs.set j v) :: l) u → K u) :
    (∃ old, w.cell? (⟨g, j, none⟩ : Addr) = some old) ∧ w.frozen? (⟨g, j, none⟩ : Addr) = false ∧ letW (w.setCell (⟨g, j, none⟩ : Addr) v) K := by
  obtain ⟨S, ⟨hS, h⟩, hback⟩ := H.foc0
  refine sl_set h hj fun u h' k _ => hk u ?_
  have := hback (.sl e sz (some ⟨g, o, none⟩) n c (xs.set j v)) [] u ⟨⟨S, ⟨S, fun _ => False, ⟨hS, h'⟩, fun _ h => h, fun _ _ h => h, fun g => by simp⟩, fun _ h => .inl h⟩, k.mono fun g _ hg => (hS g).2 hg⟩
  simpa using this

theorem Own.mk1 {w w' : World} {S S' : Foot} {A : Asrt} (k : Keep S w w') (h : A.on w' S') (hs : ∀ g, S' g → S g ∨ w.heap.size ≤ g) : Own w S [A] w' :=
  ⟨⟨S', ⟨S', fun _ => False, h, fun _ h => h, fun _ _ h => h, fun g => by simp⟩, hs⟩, k⟩
theorem Own.front {W0 w : World} {S0 : Foot} {l : List Asrt} {A : Asrt} (H : Own W0 S0 (A :: l) w) : Own W0 S0 [A] w := H.keepTo (n := 1)
theorem Own.front2 {W0 w : World} {S0 : Foot} {l : List Asrt} {A B : Asrt} (H : Own W0 S0 (A :: B :: l) w) : Own W0 S0 [A, B] w := H.keepTo (n := 2)
theorem Own.front3 {W0 w : World} {S0 : Foot} {l : List Asrt} {A B C : Asrt} (H : Own W0 S0 (A :: B :: C :: l) w) : Own W0 S0 [A, B, C] w := H.keepTo (n := 3)
theorem Own.front4 {W0 w : World} {S0 : Foot} {l : List Asrt} {A B C D : Asrt} (H : Own W0 S0 (A :: B :: C :: D :: l) w) : Own W0 S0 [A, B, C, D] w := H.keepTo (n := 4)
theorem Own.front5 {W0 w : World} {S0 : Foot} {l : List Asrt} {A0 A1 A2 A3 A4 : Asrt} (H : Own W0 S0 (A0 :: A1 :: A2 :: A3 :: A4 :: l) w) : Own W0 S0 [A0, A1, A2, A3, A4] w := H.keepTo (n := 5)
theorem Own.front6 {W0 w : World} {S0 : Foot} {l : List Asrt} {A0 A1 A2 A3 A4 A5 : Asrt} (H : Own W0 S0 (A0 :: A1 :: A2 :: A3 :: A4 :: A5 :: l) w) : Own W0 S0 [A0, A1, A2, A3, A4, A5] w := H.keepTo (n := 6)
theorem Own.front7 {W0 w : World} {S0 : Foot} {l : List Asrt} {A0 A1 A2 A3 A4 A5 A6 : Asrt} (H : Own W0 S0 (A0 :: A1 :: A2 :: A3 :: A4 :: A5 :: A6 :: l) w) : Own W0 S0 [A0, A1, A2, A3, A4, A5, A6] w := H.keepTo (n := 7)
theorem Own.front8 {W0 w : World} {S0 : Foot} {l : List Asrt} {A0 A1 A2 A3 A4 A5 A6 A7 : Asrt} (H : Own W0 S0 (A0 :: A1 :: A2 :: A3 :: A4 :: A5 :: A6 :: A7 :: l) w) : Own W0 S0 [A0, A1, A2, A3, A4, A5, A6, A7] w := H.keepTo (n := 8)
theorem Own.front9 {W0 w : World} {S0 : Foot} {l : List Asrt} {A0 A1 A2 A3 A4 A5 A6 A7 A8 : Asrt} (H : Own W0 S0 (A0 :: A1 :: A2 :: A3 :: A4 :: A5 :: A6 :: A7 :: A8 :: l) w) : Own W0 S0 [A0, A1, A2, A3, A4, A5, A6, A7, A8] w := H.keepTo (n := 9)
theorem Own.front10 {W0 w : World} {S0 : Foot} {l : List Asrt} {A0 A1 A2 A3 A4 A5 A6 A7 A8 A9 : Asrt} (H : Own W0 S0 (A0 :: A1 :: A2 :: A3 :: A4 :: A5 :: A6 :: A7 :: A8 :: A9 :: l) w) : Own W0 S0 [A0, A1, A2, A3, A4, A5, A6, A7, A8, A9] w := H.keepTo (n := 10)
theorem Sep.grp {A : Asrt} {l : List Asrt} {w : World} {S : Foot} (h : Sep (A :: l) w S) : Sep [A, .sep l] w S := by
  obtain ⟨S1, S2, h1, h2, hd, hs⟩ := h
  exact ⟨S1, S2, h1, ⟨S2, fun _ => False, h2, fun _ h => h, fun _ _ h => h, fun g => by simp⟩, hd, hs⟩
theorem Own.grp {W0 w : World} {S0 : Foot} {A : Asrt} {l : List Asrt} (H : Own W0 S0 [A, .sep l] w) : Own W0 S0 (A :: l) w := by
  have := H.up1.opSep
  exact this.perm (List.perm_append_comm (l₁ := l) (l₂ := [A]))
theorem Own.grp' {W0 w : World} {S0 : Foot} {A : Asrt} {l : List Asrt} (H : Own W0 S0 (A :: l) w) : Own W0 S0 [A, .sep l] w := by
  obtain ⟨⟨S, h, hb⟩, k⟩ := H
  exact ⟨⟨S, h.grp, hb⟩, k⟩
/-- 'two', and of what the two parts are. -/
theorem Own.twoB {W0 w : World} {S0 : Foot} {A B : Asrt} {l : List Asrt} (H : Own W0 S0 (A :: B :: l) w) : ∃ S, Sep [A, B] w S ∧ (∀ g, S g → S0 g ∨ W0.heap.size ≤ g) ∧ ∀ A' B' ls w', Own w S (A' :: B' :: ls) w' → Own W0 S0 (A' :: B' :: (l ++ ls)) w' := by
  obtain ⟨⟨T, h, hb⟩, k⟩ := H
  obtain ⟨S1, S2, h1, ⟨S3, S4, h3, h4, hd2, hs2⟩, hd, hs⟩ := h
  have H' : Own w T (A :: B :: l) w := Own.of ⟨S1, S2, h1, ⟨S3, S4, h3, h4, hd2, hs2⟩, hd, hs⟩
  refine ⟨fun g => S1 g ∨ S3 g, ⟨S1, S3, h1, ⟨S3, fun _ => False, h3, fun _ h => h, fun _ _ h => h, fun g => by simp⟩, fun g hg h => hd g hg ((hs2 g).2 (.inl h)), fun _ => Iff.rfl⟩, fun g hg => hb g (hg.elim (fun h => (hs g).2 (.inl h)) fun h => (hs g).2 (.inr ((hs2 g).2 (.inl h)))), fun A' B' ls w' ⟨⟨T', h', hb'⟩, k'⟩ => ?_⟩
  have dis : ∀ g, S4 g → ¬ (S1 g ∨ S3 g) := fun g h4g h => h.elim (fun h => hd g h ((hs2 g).2 (.inr h4g))) fun h => hd2 g h h4g
  have lt4 : ∀ g, S4 g → g < w.heap.size := fun g hg => h4.lt hg
  have hT : ∀ g, (S1 g ∨ S3 g) → T g := fun g h => h.elim (fun h => (hs g).2 (.inl h)) fun h => (hs g).2 (.inr ((hs2 g).2 (.inl h)))
  have h4' : Sep l w' S4 := h4.loc (fun g hg => k'.block g (lt4 g hg) (dis g hg)) k'.size
  have all := Sep.append h' h4' fun g hg h4g => by
    rcases hb' g hg with h | h
    · exact dis g h4g h
    · have := lt4 g h4g; omega
  refine ⟨⟨_, all.perm ?_, fun g hg => ?_⟩, k.trans k' fun g hg h => (hb g (hT g h)).resolve_right (by omega)⟩
  · exact List.Perm.cons _ (List.Perm.cons _ List.perm_append_comm)
  · have := k.size
    rcases hg with hg | hg
    · rcases hb' g hg with h | h
      · exact hb g (hT g h)
      · exact .inr (by omega)
    · exact hb g ((hs g).2 (.inr ((hs2 g).2 (.inr hg))))
theorem Own.allB {W0 w : World} {S0 : Foot} {l : List Asrt} (H : Own W0 S0 l w) : ∃ S, Sep l w S ∧ (∀ g, S g → S0 g ∨ W0.heap.size ≤ g) ∧ ∀ l' w', Own w S l' w' → Own W0 S0 l' w' := by
  have H2 := H
  obtain ⟨⟨S, h, hb⟩, k⟩ := H
  exact ⟨S, h, hb, fun l' w' h' => H2.trans h hb h'⟩
theorem oneW_fn {fn : Fn} {a b : Array Value} {X : Prop} (h : X) : oneW (.func fn a b) X := h
theorem Own.since {w u v : World} {S : Foot} {l : List Asrt} (k : Keep NoB w u) (H : Own u S l v) : Own w S l v := by
  obtain ⟨⟨S', h, hb⟩, k'⟩ := H
  exact ⟨⟨S', h, fun g hg => (hb g hg).imp id fun h => by have := k.size; omega⟩, (k.mono fun _ _ h => h.elim).trans k' fun _ _ h => h⟩
theorem callV_fn {P : Program} {B : FuncId → Bool} {g : FuncId} {first args caps : List Value} {w : World} {R : Ending → World → Prop} (h1 : B g = true) (h2 : Calls P g ⟨first ++ args ++ caps⟩ w R) : callV P B (.func (.func g) ⟨first⟩ ⟨caps⟩) args w R := by
  show bW (B g) _
  rw [h1]; exact h2
theorem Own.has0 {W0 w : World} {S0 : Foot} {l : List Asrt} {A : Asrt} (H : Own W0 S0 (A :: l) w) : ∃ S, A.on w S := H.has i0
theorem Own.out {W0 w : World} {S0 : Foot} {A : Asrt} (H : Own W0 S0 [A] w) : ∃ S, A.on w S ∧ (∀ g, S g → S0 g ∨ W0.heap.size ≤ g) ∧ Keep S0 W0 w := by
  obtain ⟨⟨S, ⟨S1, S2, h1, h2, _, hs⟩, hb⟩, k⟩ := H
  exact ⟨S1, h1, fun g hg => hb g ((hs g).2 (.inl hg)), k⟩


/-- ONE ELEMENT BUILT AND APPENDED, to the row at the front. -/
theorem Own.app1 {P : Program} {t ty e : TypeId} {sz bytes : Nat} (E : ElemOk P t e sz bytes) {W0 w : World} {S0 : Foot} {l : List Asrt} {a : Option Addr} {n c : Nat} {xs : List Value} (H : Own W0 S0 (.sl e sz a n c xs :: l) w)
    {v : Value} (hv : v.cells.size = sz) (h1 : ∀ u ∈ v.cells.toList, u.oneCell' = true) (hb : (n + 1) * (bytes + 1) ≤ 140737488355328) (hs : sz ≤ 1000) {K : Option Addr → Nat → Nat → World → Prop}
    (hk : ∀ (a' : Option Addr) (c' : Nat) (u : World), Own W0 S0 (.sl e sz a' (n + 1) c' (xs ++ v.cells.toList) :: l) u → K a' (n + 1) c' u) :
    ∃ (a5 : Option Addr) (l5 c5 : Nat), ∃ w5, (Instr.buildSlice t 1 ⟨[(0, v)]⟩).run P w = .ok (.slice a5 l5 c5) w5 ∧
      ∃ (a7 : Option Addr) (l7 c7 : Nat), ∃ w7, (Builtin.append_ ⟨[t, t]⟩ ty ⟨[.slice a n c, .slice a5 l5 c5]⟩).run P w5 = .ok (.slice a7 l7 c7) w7 ∧ K a7 l7 c7 w7 := by
  obtain ⟨w5, hr, n5⟩ := buildSlice_one (w := w) E v hv hs
  refine ⟨_, _, _, w5, hr, ?_⟩
  have H5 := H.quiet n5.keep
  obtain ⟨S, ⟨hS, hsl⟩, back⟩ := H5.foc0
  have hsrc : Src w5 sz (some ⟨w.heap.size, 0, none⟩) 1 1 v.cells.toList := by
    refine ⟨by simpa using hv, .inr ⟨_, rfl, fun j u hj => ?_⟩⟩
    exact cell_at n5.at_ (by simpa using hj)
  obtain ⟨a', c', w7, hr7, hs7, k7, hb7⟩ := append_own (ty := ty) E hsl hsrc h1 hb
  refine ⟨_, _, _, w7, hr7, hk _ _ _ ?_⟩
  have := back (.sl e sz a' (n + 1) c' (xs ++ v.cells.toList)) [] w7 (Own.mk1 (S' := Blk a') (k7.mono fun g _ hg => (hS g).2 hg) ⟨fun _ => Iff.rfl, hs7⟩ fun g hg => (hb7 g hg).imp (fun h => (hS g).2 h) id)
  simpa using this

/-- .. with a condition between the two. -/
theorem Own.app1m {P : Program} {t ty e : TypeId} {sz bytes : Nat} (E : ElemOk P t e sz bytes) {W0 w : World} {S0 : Foot} {l : List Asrt} {a : Option Addr} {n c : Nat} {xs : List Value} (H : Own W0 S0 (.sl e sz a n c xs :: l) w)
    {v : Value} (hv : v.cells.size = sz) (h1 : ∀ u ∈ v.cells.toList, u.oneCell' = true) (hb : (n + 1) * (bytes + 1) ≤ 140737488355328) (hs : sz ≤ 1000) {M : World → Prop} {K : Option Addr → Nat → Nat → World → Prop}
    (hm : ∀ u, Own W0 S0 (.sl e sz a n c xs :: l) u → M u)
    (hk : ∀ (a' : Option Addr) (c' : Nat) (u : World), Own W0 S0 (.sl e sz a' (n + 1) c' (xs ++ v.cells.toList) :: l) u → K a' (n + 1) c' u) :
    ∃ (a5 : Option Addr) (l5 c5 : Nat), ∃ w5, (Instr.buildSlice t 1 ⟨[(0, v)]⟩).run P w = .ok (.slice a5 l5 c5) w5 ∧ M w5 ∧
      ∃ (a7 : Option Addr) (l7 c7 : Nat), ∃ w7, (Builtin.append_ ⟨[t, t]⟩ ty ⟨[.slice a n c, .slice a5 l5 c5]⟩).run P w5 = .ok (.slice a7 l7 c7) w7 ∧ K a7 l7 c7 w7 := by
  obtain ⟨w5, hr, n5⟩ := buildSlice_one (w := w) E v hv hs
  have H5 := H.quiet n5.keep
  refine ⟨_, _, _, w5, hr, hm _ H5, ?_⟩
  obtain ⟨S, ⟨hS, hsl⟩, back⟩ := H5.foc0
  have hsrc : Src w5 sz (some ⟨w.heap.size, 0, none⟩) 1 1 v.cells.toList := by
    refine ⟨by simpa using hv, .inr ⟨_, rfl, fun j u hj => ?_⟩⟩
    exact cell_at n5.at_ (by simpa using hj)
  obtain ⟨a', c', w7, hr7, hs7, k7, hb7⟩ := append_own (ty := ty) E hsl hsrc h1 hb
  refine ⟨_, _, _, w7, hr7, hk _ _ _ ?_⟩
  have := back (.sl e sz a' (n + 1) c' (xs ++ v.cells.toList)) [] w7 (Own.mk1 (S' := Blk a') (k7.mono fun g _ hg => (hS g).2 hg) ⟨fun _ => Iff.rfl, hs7⟩ fun g hg => (hb7 g hg).imp (fun h => (hS g).2 h) id)
  simpa using this

/-- What lies elsewhere is appended, to the row at the front. -/
theorem Own.appSrc {P : Program} {t ty e : TypeId} {sz bytes : Nat} (E : ElemOk P t e sz bytes) {W0 w : World} {S0 : Foot} {l : List Asrt} {a : Option Addr} {n c : Nat} {xs : List Value} (H : Own W0 S0 (.sl e sz a n c xs :: l) w)
    {x : Option Addr} {m cx : Nat} {news : List Value} (hx : Src w sz x m cx news) (h1 : ∀ u ∈ news, u.oneCell' = true) (hb : (n + m) * (bytes + 1) ≤ 140737488355328) {K : Option Addr → Nat → Nat → World → Prop}
    (hk : ∀ (a' : Option Addr) (c' : Nat) (u : World), Own W0 S0 (.sl e sz a' (n + m) c' (xs ++ news) :: l) u → K a' (n + m) c' u) :
    ∃ (a7 : Option Addr) (l7 c7 : Nat), ∃ w7, (Builtin.append_ ⟨[t, t]⟩ ty ⟨[.slice a n c, .slice x m cx]⟩).run P w = .ok (.slice a7 l7 c7) w7 ∧ K a7 l7 c7 w7 := by
  obtain ⟨S, ⟨hS, hsl⟩, back⟩ := H.foc0
  obtain ⟨a', c', w7, hr7, hs7, k7, hb7⟩ := append_own (ty := ty) E hsl hx h1 hb
  refine ⟨_, _, _, w7, hr7, hk _ _ _ ?_⟩
  have := back (.sl e sz a' (n + m) c' (xs ++ news)) [] w7 (Own.mk1 (S' := Blk a') (k7.mono fun g _ hg => (hS g).2 hg) ⟨fun _ => Iff.rfl, hs7⟩ fun g hg => (hb7 g hg).imp (fun h => (hS g).2 h) id)
  simpa using this

/-! ### A literal of several elements -/
theorem fold_put (off : Nat) : ∀ (l pre cs post : List Value) (j : Nat), cs.length = l.length → pre.length = off + j →
    (l.zipIdx j).foldl (fun (cs : Array Value) (p : Value × Nat) => cs.setIfInBounds (off + p.2) p.1) ⟨pre ++ cs ++ post⟩ = ⟨pre ++ l ++ post⟩
  | [], pre, [], post, _, _, _ => by simp
  | x :: l, pre, y :: cs, post, j, h, hp => by
    rw [List.zipIdx_cons, List.foldl_cons]
    have e1 : (⟨pre ++ (y :: cs) ++ post⟩ : Array Value).setIfInBounds (off + j) x = ⟨(pre ++ [x]) ++ cs ++ post⟩ := by
      apply Array.toList_inj.1
      rw [← hp]
      simp
    rw [e1, fold_put off l (pre ++ [x]) cs post (j + 1) (by simpa using h) (by simp; omega)]
    simp
theorem fill_from (sz : Nat) : ∀ (vs : List Value) (k : Nat) (pre cs : List Value), (∀ v ∈ vs, v.cells.size = sz) → pre.length = k * sz → cs.length = vs.length * sz →
    Instr.fill (fun i => some (i * sz, sz)) ⟨pre ++ cs⟩ ((List.range' k vs.length).zip vs) = some ⟨pre ++ vs.flatMap (·.cells.toList)⟩
  | [], k, pre, cs, _, _, hc => by
    have : cs = [] := List.eq_nil_of_length_eq_zero (by simpa using hc)
    subst this; simp [Instr.fill]
  | v :: vs, k, pre, cs, hv, hp, hc => by
    have h1 := hv v (by simp)
    rw [List.length_cons, Nat.succ_mul] at hc
    have hsz : v.cells.toList.length = sz := by simpa using h1
    show Instr.fill _ _ ((k, v) :: (List.range' (k + 1) vs.length).zip vs) = _
    have hno : ¬ (v.cells.size ≠ sz ∨ k * sz + v.cells.size > (⟨pre ++ cs⟩ : Array Value).size) := by
      have : (⟨pre ++ cs⟩ : Array Value).size = pre.length + cs.length := by simp
      omega
    simp only [Instr.fill]
    rw [if_neg (by rw [← Bool.decide_or, decide_eq_true_eq]; exact hno)]
    have e := fold_put (k * sz) v.cells.toList pre (cs.take sz) (cs.drop sz) 0 (by rw [List.length_take]; omega) (by omega)
    rw [List.append_assoc, List.take_append_drop] at e
    rw [← Array.foldl_toList, Array.toList_zipIdx, e]
    rw [fill_from sz vs (k + 1) (pre ++ v.cells.toList) (cs.drop sz) (fun x hx => hv x (by simp [hx])) (by rw [List.length_append, hsz, hp, Nat.succ_mul]) (by rw [List.length_drop]; omega)]
    simp
theorem buildSlice_list {P : Program} {w : World} {t e : TypeId} {sz bytes n : Nat} {es : List (Nat × Value)} (E : ElemOk P t e sz bytes) (vs : List Value) (hv : ∀ v ∈ vs, v.cells.size = sz) (hn : n = vs.length) (h0 : 0 < n) (he : es = (List.range' 0 vs.length).zip vs) (hb : n * sz ≤ 16777216) (hb2 : n * bytes ≤ 140737488355328) :
    ∃ u, (Instr.buildSlice t n ⟨es⟩).run P w = .ok (.slice (some ⟨w.heap.size, 0, none⟩) n n) u ∧ New w (.cells ⟨vs.flatMap (·.cells.toList)⟩ e) u := by
  obtain ⟨ht, ⟨i, z, hi, hz, hsz, hby, hzs⟩, hpos⟩ := E
  subst hn he
  refine ⟨w.alloc (.cells ⟨vs.flatMap (·.cells.toList)⟩ e), ?_, New.mk' _ _⟩
  have hfill : Instr.fill (fun i => some (i * sz, sz)) ((Array.range (vs.length * sz)).map (z.cells[· % z.cells.size]!)) ((List.range' 0 vs.length).zip vs) = some ⟨vs.flatMap (·.cells.toList)⟩ := by
    exact fill_from sz vs 0 [] ((Array.range (vs.length * sz)).map (z.cells[· % z.cells.size]!)).toList hv (by simp) (by simp)
  subst hsz
  exact run_buildSlice w t e vs.length _ _ i z ht hi hz (by omega) (Nat.mul_ne_zero (by omega) (by omega)) hfill

/-- The empty row. -/
theorem Own.nilRow {W0 w : World} {S0 : Foot} {l : List Asrt} (e : TypeId) (sz : Nat) (H : Own W0 S0 l w) : Own W0 S0 (.sl e sz none 0 0 [] :: l) w := by
  have := H.add (Own.mk1 (A := .sl e sz none 0 0 []) (S := NoB) (S' := NoB) (Keep.refl _ w) ⟨fun g => ⟨fun h => h.elim, fun h => Blk.none h⟩, Sl.nil _ _ _⟩ fun _ h => h.elim)
  exact this.perm (List.perm_append_comm (l₁ := l) (l₂ := [Asrt.sl e sz none 0 0 []]))

end Go.Proofs.YtgepmlgkeljelaaGreat.Vc
