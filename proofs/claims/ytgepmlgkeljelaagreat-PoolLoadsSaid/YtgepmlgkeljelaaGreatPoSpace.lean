/- The space of blocks (package space), of 128 to 255, as a part of memory. -/
import Derived.Test.YtgepmlgkeljelaaGreatVcN
import Derived.Test.YtgepmlgkeljelaaGreatTall
namespace Go.Proofs.YtgepmlgkeljelaaGreat.Vc
open Go Go.Proofs

def WM (m : Nat → Nat) (f : Nat → Bool) : Prop := (∀ k, m k < 2 ^ 64) ∧ ∀ k j, k < 4 → j < 64 → (m k).testBit j = f (64 * k + j)
def wcs (m : Nat → Nat) : List Value := [.int .u64 (m 0 : Nat), .int .u64 (m 1 : Nat), .int .u64 (m 2 : Nat), .int .u64 (m 3 : Nat)]
abbrev SpcO (a : Option Addr) (c : Nat) : Obj := .cells ⟨[.int .i64 128, .int .i64 256, .slice a 1 c]⟩ T.«space_Space»
/-- The space at b; f: which are used. -/
def Spc (b : Nat) (f : Nat → Bool) : Asrt := .ex fun a : Option Addr => .ex fun c : Nat => .ex fun m : Nat → Nat => .pure (WM m f) (.sep [At b (SpcO a c), .sl T.«space_bits» 4 a 1 c (wcs m)])

section
variable {w W0 : World} {S S0 : Foot} {b : Nat} {f : Nat → Bool} {l : List Asrt}

theorem Spc.op (H : Own W0 S0 (Spc b f :: l) w) : ∃ g c m, WM m f ∧ Own W0 S0 (At b (SpcO (some ⟨g, 0, none⟩) c) :: .sl T.«space_bits» 4 (some ⟨g, 0, none⟩) 1 c (wcs m) :: l) w := by
  obtain ⟨a, H⟩ := H.opEx
  obtain ⟨c, H⟩ := H.opEx
  obtain ⟨m, H⟩ := H.opEx
  obtain ⟨hm, H⟩ := H.opPure
  have H := H.opSep
  obtain ⟨_, hs⟩ := H.has i1
  obtain ⟨g, rfl⟩ := hs.2.some (by omega)
  exact ⟨g, c, m, hm, H⟩
theorem Spc.cl {a : Option Addr} {c : Nat} {m : Nat → Nat} (hm : WM m f) (H : Own W0 S0 (At b (SpcO a c) :: .sl T.«space_bits» 4 a 1 c (wcs m) :: l) w) : Own W0 S0 (Spc b f :: l) w :=
  Own.mkEx a (Own.mkEx c (Own.mkEx m (Own.mkPure hm (Own.mkSep H))))

theorem p_is {a : Option Addr} {c : Nat} (h : w.heap[b]? = some (SpcO a c)) : Calls P F.«space_Space_is» ⟨[.pointer (some ⟨b, 0, none⟩)]⟩ w fun e w' => e = .returned (.bool true) ∧ w = w' := by
  refine ok_space_Space_is ?_
  unfold V_space_Space_is
  exact bcase_mk (fun _ => ⟨_, cell_at h rfl, rfl, rfl⟩) fun h => by cases h
theorem p_rules {a : Option Addr} {c : Nat} (h : w.heap[b]? = some (SpcO a c)) (at_ : Int) : Calls P F.«space_Space_rules» ⟨[.pointer (some ⟨b, 0, none⟩), .int .i64 at_]⟩ w fun e w' => e = .returned (.int .i64 (if 128 ≤ at_ ∧ at_ < 256 then 0 else 2)) ∧ w = w' := by
  refine ok_space_Space_rules ?_
  unfold V_space_Space_rules
  refine (p_is h).mono ?_
  rintro _ _ ⟨rfl, rfl⟩
  refine ⟨_, rfl, bcase_mk (fun h => by cases h) fun _ => ⟨_, cell_at h rfl, bcase_mk (fun h => ⟨?_, rfl⟩) fun h1 => ⟨_, cell_at h rfl, bcase_mk (fun h => ⟨?_, rfl⟩) fun h2 => ⟨?_, rfl⟩⟩⟩⟩
  all_goals simp only [decide_eq_true_eq, decide_eq_false_iff_not] at *
  · rw [if_neg (by omega)]
  · rw [if_neg (by omega)]
  · rw [if_pos (by omega)]
theorem p_bit {g c : Nat} (h : w.heap[b]? = some (SpcO (some ⟨g, 0, none⟩) c)) (k j : Nat) (hk : k < 4) (hj : j < 64) : Calls P F.«space_Space_bit» ⟨[.pointer (some ⟨b, 0, none⟩), .int .i64 (64 * k + j : Nat)]⟩ w fun e w' => e = .returned (.tuple ⟨[.pointer (some ⟨g, k, none⟩), .int .u64 (2 ^ j : Nat)]⟩) ∧ Drew w w' := by
  refine ok_space_Space_bit ?_
  unfold V_space_Space_bit
  have e1 : Int.tdiv ((64 * k + j : Nat) : Int) 256 = 0 := by rw [Int.tdiv_eq_ediv_of_nonneg (by omega)]; omega
  have e2 : Int.tmod ((64 * k + j : Nat) : Int) 256 = (64 * k + j : Nat) := by rw [Int.tmod_eq_emod_of_nonneg (by omega)]; omega
  have e3 : Int.tdiv ((64 * k + j : Nat) : Int) 64 = k := by rw [Int.tdiv_eq_ediv_of_nonneg (by omega)]; omega
  have e4 : Int.tmod ((64 * k + j : Nat) : Int) 64 = j := by rw [Int.tmod_eq_emod_of_nonneg (by omega)]; omega
  have w0 : IntKind.wrap .i64 0 = 0 := wrap64 (by omega) (by omega)
  have wk : IntKind.wrap .i64 (k : Int) = k := wrap64 (by omega) (by omega)
  have hp : (2 ^ j : Nat) < 2 ^ 64 := Nat.pow_lt_pow_right (by omega) hj
  have em : IntKind.wrap .u64 (1 * 2 ^ (min ((j : Nat) : Int).toNat (IntKind.bits .u64))) = ((2 ^ j : Nat) : Int) := by
    have hb : min ((j : Nat) : Int).toNat (IntKind.bits .u64) = j := by show min j 64 = j; omega
    rw [hb, Int.one_mul, show ((2 : Int) ^ j) = ((2 ^ j : Nat) : Int) from (Int.natCast_pow 2 j).symm, wrapU64 (n := ((2 ^ j : Nat) : Int)) (Int.natCast_nonneg _) (Int.ofNat_lt.2 hp)]
  rw [e1, e2, e3, e4, w0, wk, em]
  refine ⟨_, _, _, cell_at h rfl, by decide, by decide, by decide, ⟨by omega, by omega⟩, ⟨by omega, by omega⟩, by decide, by omega, fun wd hd => ⟨?_, hd⟩⟩
  simp [add_mk]

def useR (f : Nat → Bool) (at_ : Int) : Int × (Nat → Bool) :=
  if 128 ≤ at_ ∧ at_ < 256 then (if f at_.toNat then (6, f) else (0, fun k => if k = at_.toNat then true else f k)) else (2, f)

theorem WM.val {m : Nat → Nat} (hm : WM m f) {k : Nat} (hk : k < 4) : (wcs m)[k]? = some (.int .u64 (m k : Nat)) := by
  rcases (by omega : k = 0 ∨ k = 1 ∨ k = 2 ∨ k = 3) with rfl | rfl | rfl | rfl <;> rfl
theorem WM.put {m : Nat → Nat} (hm : WM m f) {k j : Nat} (hk : k < 4) (hj : j < 64) : WM (fun i => if i = k then m k ||| 2 ^ j else m i) (fun i => if i = 64 * k + j then true else f i) ∧ (wcs m).set k (.int .u64 ((m k ||| 2 ^ j : Nat) : Int)) = wcs (fun i => if i = k then m k ||| 2 ^ j else m i) := by
  refine ⟨⟨fun i => ?_, fun i n hi hn => ?_⟩, ?_⟩
  · by_cases e : i = k
    · simp only [e, if_true]; exact Nat.or_lt_two_pow (hm.1 k) (Nat.pow_lt_pow_right (by omega) hj)
    · simp only [e, if_false]; exact hm.1 i
  · by_cases e : i = k
    · subst e
      simp only [if_true, Nat.testBit_or, Nat.testBit_two_pow, hm.2 i n hi hn]
      by_cases e2 : j = n
      · subst e2; simp
      · rw [if_neg (by omega)]; simp [e2]
    · simp only [e, if_false]
      rw [if_neg (by omega)]; exact hm.2 i n hi hn
  · rcases (by omega : k = 0 ∨ k = 1 ∨ k = 2 ∨ k = 3) with rfl | rfl | rfl | rfl <;> rfl

theorem p_Use (h : (Spc b f).on w S) (at_ : Int) : Calls P F.«space_Space_Use» ⟨[.pointer (some ⟨b, 0, none⟩), .int .i64 at_]⟩ w fun e w' => e = .returned (.int .i64 (useR f at_).1) ∧ Own w S [Spc b (useR f at_).2] w' := by
  refine ok_space_Space_Use ?_
  unfold V_space_Space_Use
  have H := Own.of1 h
  obtain ⟨g, c, m, hm, H⟩ := Spc.op H
  refine (p_rules H.ob at_).mono ?_
  rintro _ _ ⟨rfl, rfl⟩
  refine ⟨_, rfl, ?_⟩
  by_cases hr : 128 ≤ at_ ∧ at_ < 256
  · unfold useR
    rw [if_pos hr, if_pos hr]
    refine bcase_mk (fun h => by cases h) fun _ => ?_
    obtain ⟨k, j, hk, hj, rfl⟩ : ∃ k j : Nat, k < 4 ∧ j < 64 ∧ at_ = (64 * k + j : Nat) := ⟨at_.toNat / 64, at_.toNat % 64, by omega, by omega, by omega⟩
    refine (p_bit H.ob k j hk hj).mono ?_
    rintro _ w1 ⟨rfl, hd⟩
    have H := H.drew hd
    obtain ⟨_, hs⟩ := H.has i1
    have hp : (2 ^ j : Nat) < 2 ^ 64 := Nat.pow_lt_pow_right (by omega) hj
    refine ⟨_, _, rfl, _, (hs.2.cell (hm.val hk)).2, ?_⟩
    rw [bits_and (hm.1 k) hp]
    have ht : ((64 * k + j : Nat) : Int).toNat = 64 * k + j := Int.toNat_natCast _
    rw [ht]
    refine bcase_mk (fun hb => ?_) fun hb => ?_
    · have : f (64 * k + j) = true := by
        rw [← hm.2 k j hk hj]
        simp only [bne_iff_ne, ne_eq] at hb
        have := fun h => hb (by rw [(and_pow (m k) j).2 h]; rfl)
        simpa using this
      rw [if_pos this]
      exact ⟨rfl, Spc.cl hm H⟩
    · have : f (64 * k + j) = false := by
        rw [← hm.2 k j hk hj]
        simp only [bne_eq_false_iff_eq] at hb
        exact (and_pow (m k) j).1 (by exact_mod_cast hb)
      rw [this, if_neg (by simp)]
      refine ⟨_, (hs.2.cell (hm.val hk)).2, ?_⟩
      rw [bits_or (hm.1 k) hp]
      show (∃ old, w1.cell? ((⟨g, k, none⟩ : Addr).add 0) = some old) ∧ w1.frozen? ((⟨g, k, none⟩ : Addr).add 0) = false ∧ _
      rw [add_mk, Nat.add_zero]
      refine Own.setRow (H.up1) (by show k < 4; exact hk) fun u H => ⟨rfl, ?_⟩
      rw [(hm.put hk hj).2] at H
      exact Spc.cl (hm.put hk hj).1 H.dn1
  · unfold useR
    rw [if_neg hr, if_neg hr]
    exact bcase_mk (fun _ => ⟨rfl, Spc.cl hm H⟩) fun h => by cases h

theorem p_Free (h : (Spc b f).on w S) (at_ : Int) : Calls P F.«space_Space_Free» ⟨[.pointer (some ⟨b, 0, none⟩), .int .i64 at_]⟩ w fun e w' => e = .returned (.bool (decide (128 ≤ at_ ∧ at_ < 256) && !f at_.toNat)) ∧ Drew w w' := by
  refine ok_space_Space_Free ?_
  unfold V_space_Space_Free
  have H := Own.of1 h
  obtain ⟨g, c, m, hm, H⟩ := Spc.op H
  refine (p_rules H.ob at_).mono ?_
  rintro _ _ ⟨rfl, rfl⟩
  refine ⟨_, rfl, ?_⟩
  by_cases hr : 128 ≤ at_ ∧ at_ < 256
  · rw [if_pos hr]
    refine bcase_mk (fun h => by cases h) fun _ => ?_
    obtain ⟨k, j, hk, hj, rfl⟩ : ∃ k j : Nat, k < 4 ∧ j < 64 ∧ at_ = (64 * k + j : Nat) := ⟨at_.toNat / 64, at_.toNat % 64, by omega, by omega, by omega⟩
    refine (p_bit H.ob k j hk hj).mono ?_
    rintro _ w1 ⟨rfl, hd⟩
    have H := H.drew hd
    obtain ⟨_, hs⟩ := H.has i1
    have hp : (2 ^ j : Nat) < 2 ^ 64 := Nat.pow_lt_pow_right (by omega) hj
    refine ⟨_, _, rfl, _, (hs.2.cell (hm.val hk)).2, ?_, hd⟩
    rw [bits_and (hm.1 k) hp]
    have ht : ((64 * k + j : Nat) : Int).toNat = 64 * k + j := Int.toNat_natCast _
    rw [ht, ← hm.2 k j hk hj, decide_eq_true hr, Bool.true_and]
    congr 2
    cases hb : (m k).testBit j with
    | false => rw [(and_pow (m k) j).2 hb]; rfl
    | true =>
      have : (m k &&& 2 ^ j) ≠ 0 := fun h => by rw [(and_pow (m k) j).1 h] at hb; cases hb
      simpa using this
  · rw [if_neg hr]
    refine bcase_mk (fun _ => ⟨?_, Drew.refl _⟩) fun h => by cases h
    rw [decide_eq_false hr]; rfl

theorem spcElem : ElemOk P T.«l_space_bits» T.«space_bits» 4 32 := ⟨Tryz.underlying169, infoOk (z := .agg ⟨[.int .u64 0, .int .u64 0, .int .u64 0, .int .u64 0]⟩) (by kernel_rfl) rfl, by decide⟩

theorem p_New (w : World) : Calls P F.«space_New» ⟨[.int .i64 128, .int .i64 256]⟩ w fun e w' => ∃ b, e = .returned (.pointer (some ⟨b, 0, none⟩)) ∧ Own w NoB [Spc b (fun _ => false)] w' := by
  refine ok_space_New ?_
  unfold V_space_New
  refine bcase_mk (fun h => by simp at h) fun _ => bcase_mk (fun h => by simp at h) fun _ => bcase_mk (fun h => by simp at h) fun _ => ?_
  have e1 : IntKind.wrap .i64 (IntKind.wrap .i64 (Int.tdiv (IntKind.wrap .i64 ((256 : Int) - 1)) 256) + 1) = ((1 : Nat) : Int) := by decide
  rw [e1]
  obtain ⟨u, hr, n⟩ := makeSlice_own (P := P) (w := w) (t := T.«l_space_bits») (e := T.«space_bits») (sz := 4) (bytes := 32) (z := .agg ⟨[.int .u64 0, .int .u64 0, .int .u64 0, .int .u64 0]⟩) Tryz.underlying169 (by kernel_rfl) rfl (by omega) (ln := 1) (cn := 1) rfl rfl (by omega) (by omega) (by omega)
  refine ⟨by decide, _, _, _, _, hr, (Own.new n).al fun u' H => ⟨_, rfl, ?_⟩⟩
  have H := H.up1
  refine Spc.cl (m := fun _ => 0) ⟨fun _ => Nat.two_pow_pos 64, fun _ _ _ _ => by simp⟩ (H.turn1 fun S h => ⟨fun g => ?_, ?_⟩)
  · exact (h.1 g).trans ⟨fun e => by rw [e]; exact Blk.mk _ _, fun e => e.eq⟩
  · have hs := Sl.mk' (sz := 4) (n := 1) (c := 1) h.2 (by omega) (by decide) (by simp)
    have e : ∀ F : Nat → Value, (((Array.range (1 * 4)).map F).toList.take (1 * 4)) = [F 0, F 1, F 2, F 3] := fun F => by simp [List.range_succ]
    rw [e] at hs
    exact hs


theorem p_All (w : World) (s : Option Addr) : Calls P F.«space_Space_All» ⟨[.pointer s]⟩ w fun e w' => e = .returned (.func (.func F.«space_Space_All_1») ⟨[]⟩ ⟨[.pointer (some ⟨w.heap.size, 0, none⟩)]⟩) ∧ Own w NoB [At w.heap.size (.cells ⟨[.pointer s]⟩ T.«p_space_Space»)] w' := by
  refine ok_space_Space_All ?_
  unfold V_space_Space_All
  exact (Own.nil w).al fun u H => ⟨rfl, H⟩

/-- THE ITERATOR OF THE FREE BLOCKS. -/
theorem p_All1 {y : Value} {cb : Nat} {I : Nat → World → Prop} {Stop : World → Prop} (h : I 128 w)
    (hI : ∀ i u, I i u → u.heap[cb]? = some (.cells ⟨[.pointer (some ⟨b, 0, none⟩)]⟩ T.«p_space_Space») ∧ ∃ S, (Spc b f).on u S)
    (hd : ∀ i u u', I i u → Drew u u' → I i u') (hs : ∀ i u, 128 ≤ i → f i = true → I i u → I (i + 1) u)
    (hy : ∀ i : Nat, 128 ≤ i → i < 256 → f i = false → ∀ u, I i u → callV P Bd y [.int .i64 i] u fun e u' => (e = .returned (.bool true) ∧ I (i + 1) u') ∨ (e = .returned (.bool false) ∧ Stop u')) :
    Calls P F.«space_Space_All_1» ⟨[y, .pointer (some ⟨cb, 0, none⟩)]⟩ w fun e w' => e = .returned (.tuple ⟨[]⟩) ∧ (I 256 w' ∨ Stop w') := by
  refine ok_space_Space_All_1 ?_
  unfold V_space_Space_All_1
  have op : ∀ i u, I i u → ∃ a c, u.heap[b]? = some (SpcO a c) := fun i u hi => by
    obtain ⟨_, S, hS⟩ := hI i u hi
    obtain ⟨g, c, m, _, H⟩ := Spc.op (Own.of1 hS)
    exact ⟨_, _, H.ob⟩
  obtain ⟨a, c, hb⟩ := op _ _ h
  have hc := (hI _ _ h).1
  refine ⟨_, cell_at0 hc rfl, (p_is hb).mono ?_⟩
  rintro _ _ ⟨rfl, rfl⟩
  refine ⟨_, rfl, bcase_mk (fun h => by cases h) fun _ => ⟨_, cell_at0 hc rfl, _, cell_at hb rfl, fun p u => ∃ i : Nat, p.1 = (i : Int) ∧ 128 ≤ i ∧ i ≤ 256 ∧ I i u, fun p _ => 256 - p.1.toNat, ⟨128, rfl, by omega, by omega, h⟩, ?_⟩⟩
  rintro _ _ u ⟨i, rfl, h1, h2, hi⟩
  obtain ⟨a, c, hb⟩ := op _ _ hi
  have hc := (hI _ _ hi).1
  refine ⟨_, cell_at0 hc rfl, (256 : Int), cell_at hb rfl, ?_⟩
  generalize hbb : decide ((i : Int) < 256) = bb
  refine bcase_mk (fun hlt => ?_) fun hge => ?_
  · have hlt : i < 256 := by have := of_decide_eq_true (hbb.trans hlt); omega
    obtain ⟨_, S, hS⟩ := hI _ _ hi
    refine ⟨_, cell_at0 hc rfl, (p_Free hS i).mono ?_⟩
    rintro _ u1 ⟨rfl, hd1⟩
    have hi1 := hd _ _ _ hi hd1
    have w1 : IntKind.wrap .i64 ((i : Int) + 1) = ((i + 1 : Nat) : Int) := by rw [wrap64 (by omega) (by omega)]; omega
    rw [w1]
    have dec : ((i : Int) + 1).toNat = i + 1 := by omega
    refine ⟨_, rfl, bcase_mk (fun hf => ?_) fun hf => ?_⟩
    · have hf : f i = false := by simpa [show (128 : Int) ≤ i ∧ (i : Int) < 256 from by omega] using hf
      refine callV.mono (hy i h1 hlt hf u1 hi1) ?_
      rintro e u2 (⟨rfl, h3⟩ | ⟨rfl, h3⟩)
      · exact ⟨_, rfl, bcase_mk (fun h => by cases h) fun _ => ⟨⟨i + 1, rfl, by omega, by omega, h3⟩, by show 256 - ((i + 1 : Nat) : Int).toNat < 256 - ((i : Nat) : Int).toNat; omega⟩⟩
      · exact ⟨_, rfl, bcase_mk (fun _ => ⟨rfl, .inr h3⟩) fun h => by cases h⟩
    · have hf : f i = true := by
        have h := hf
        rw [decide_eq_true (show (128 : Int) ≤ i ∧ (i : Int) < 256 by omega), Int.toNat_natCast] at h
        simpa using h
      exact ⟨⟨i + 1, rfl, by omega, by omega, hs i _ h1 hf hi1⟩, by show 256 - ((i + 1 : Nat) : Int).toNat < 256 - ((i : Nat) : Int).toNat; omega⟩
  · have : i = 256 := by have := of_decide_eq_false (hbb.trans hge); omega
    subst this
    exact ⟨rfl, .inl hi⟩

/-- How many are free below i. -/
def frees (f : Nat → Bool) : Nat → Nat
  | 0 => 0
  | i + 1 => frees f i + (if 128 ≤ i ∧ f i = false then 1 else 0)
theorem frees_le (f : Nat → Bool) : ∀ i, frees f i ≤ i
  | 0 => Nat.le_refl _
  | i + 1 => by have := frees_le f i; unfold frees; split <;> omega
theorem frees_low (f : Nat → Bool) : ∀ i, i ≤ 128 → frees f i = 0
  | 0, _ => rfl
  | i + 1, h => by unfold frees; rw [frees_low f i (by omega), if_neg (by omega)]

theorem p_Count (h : (Spc b f).on w S) : Calls P F.«space_Space_Count» ⟨[.pointer (some ⟨b, 0, none⟩)]⟩ w fun e w' => e = .returned (.int .i64 (frees f 256 : Nat)) ∧ Keep NoB w w' := by
  refine ok_space_Space_Count ?_
  unfold V_space_Space_Count
  refine (Own.nil w).al fun u0 H => H.st fun u1 H => (p_All u1 _).mono ?_
  rintro _ u2 ⟨rfl, h2⟩
  have H := H.add h2
  refine ⟨_, rfl, ?_⟩
  show bW true _
  intro y rec rounds
  have H := H.push2 (o := .deferred (some [])) (o' := rec .ready none)
  refine (p_All1 (b := b) (f := f) (I := fun i u => Own w NoB [At w.heap.size (.cells ⟨[.int .i64 (frees f i : Nat)]⟩ T.«i64'»), At u1.heap.size (.cells ⟨[.pointer (some ⟨b, 0, none⟩)]⟩ T.«p_space_Space»), At u2.heap.size (.deferred (some [])), At (u2.heap.size + 1) (rec .ready none)] u) (Stop := fun _ => False) ?_ ?_ ?_ ?_ ?_).mono ?_
  · rw [frees_low f 128 (by omega)]; exact H
  · exact fun i u H => ⟨H.ob, S, (Spc b f).loc h (fun g hg => H.keep.block g ((Spc b f).lt h hg) fun h => h) H.size⟩
  · exact fun i u u' H hd => H.drew hd
  · intro i u h1 hf H
    show Own w NoB [At w.heap.size (.cells ⟨[.int .i64 ((frees f i + (if 128 ≤ i ∧ f i = false then 1 else 0) : Nat))]⟩ T.«i64'»), _, _, _] u
    rw [if_neg (by simp [hf])]; exact H
  · intro i h1 h2 hf u H
    refine rounds _ _ u H.ob ⟨H.ob, H.po fun v H => ⟨_, H.rd0 rfl, H.st fun v H => ⟨H.ob, .inl ⟨rfl, ?_⟩⟩⟩⟩
    have H := H.po' (b := u2.heap.size + 1) (o := rec .ready none)
    have e : IntKind.wrap .i64 (((frees f i : Nat) : Int) + 1) = ((frees f (i + 1) : Nat) : Int) := by
      have := frees_le f i
      rw [wrap64 (by omega) (by omega)]
      show _ = ((frees f i + (if 128 ≤ i ∧ f i = false then 1 else 0) : Nat) : Int)
      rw [if_pos ⟨h1, hf⟩]; omega
    rw [e] at H
    exact H
  · rintro _ w' ⟨rfl, H | h⟩
    · refine ⟨⟨_, rfl⟩, .inl ⟨.ready, by decide, H.ob, H.po fun v H => ⟨_, H.rd0 rfl, H.ob, H.po fun v H => ⟨rfl, H.keep⟩⟩⟩⟩
    · exact h.elim

/-- The first free block at or above i. -/
def takeR (f : Nat → Bool) : Nat → Nat → Option Nat
  | 0, _ => none
  | n + 1, i => if f i then takeR f n (i + 1) else some i

theorem p_Take (h : (Spc b f).on w S) : Calls P F.«space_Space_Take» ⟨[.pointer (some ⟨b, 0, none⟩)]⟩ w fun e w' =>
    (takeR f 128 128 = none ∧ e = .returned (.tuple ⟨[.int .i64 0, .int .i64 7]⟩) ∧ Own w S [Spc b f] w') ∨
    (∃ k : Nat, takeR f 128 128 = some k ∧ 128 ≤ k ∧ k < 256 ∧ f k = false ∧ e = .returned (.tuple ⟨[.int .i64 k, .int .i64 0]⟩) ∧ Own w S [Spc b (fun i => if i = k then true else f i)] w') := by
  refine ok_space_Space_Take ?_
  unfold V_space_Space_Take
  have H := Own.of1 h
  refine H.al fun u0 H => H.al fun u1 H => H.al fun u2 H => ⟨_, H.rd0 rfl, ?_⟩
  obtain ⟨_, _, _, _, H'⟩ := Spc.op H
  refine (p_is H'.ob).mono ?_
  rintro _ _ ⟨rfl, rfl⟩
  refine ⟨_, rfl, bcase_mk (fun h => by cases h) fun _ => ⟨_, H.rd0 rfl, (p_All u2 _).mono ?_⟩⟩
  rintro _ u3 ⟨rfl, h3⟩
  have H := H.add h3
  refine ⟨_, rfl, ?_⟩
  show bW true _
  intro y rec rounds
  have H := H.push2 (o := .deferred (some [])) (o' := rec .ready none)
  let X : (Nat → Bool) → Int → LoopState → Option Code → List Asrt := fun f' n s c => [Spc b f', At w.heap.size (.cells ⟨[.pointer (some ⟨b, 0, none⟩)]⟩ T.«p_space_Space»), At u0.heap.size (.cells ⟨[.int .i64 n]⟩ T.«i64'»), At u1.heap.size (.cells ⟨[.int .i64 0]⟩ T.«api_Errno»), At u2.heap.size (.cells ⟨[.pointer (some ⟨b, 0, none⟩)]⟩ T.«p_space_Space»), At u3.heap.size (.deferred (some [])), At (u3.heap.size + 1) (rec s c)]
  refine (p_All1 (b := b) (f := f) (I := fun i u => takeR f 128 128 = takeR f (256 - i) i ∧ Own w S (X f 0 .ready none) u) (Stop := fun u => ∃ k : Nat, takeR f 128 128 = some k ∧ 128 ≤ k ∧ k < 256 ∧ f k = false ∧ Own w S (X (fun i => if i = k then true else f i) k .done (some .ret)) u) ⟨rfl, H⟩ ?_ ?_ ?_ ?_).mono ?_
  · exact fun i u ⟨_, H⟩ => ⟨H.ob, H.has i0⟩
  · exact fun i u u' ⟨e, H⟩ hd => ⟨e, H.drew hd⟩
  · rintro i u h1 hf ⟨e, H⟩
    refine ⟨?_, H⟩
    by_cases hi : i < 256
    · rw [e, show 256 - i = (256 - (i + 1)) + 1 by omega]; show (if f i then _ else _) = _; rw [hf, if_pos rfl]
    · rw [e, show 256 - i = 0 by omega, show 256 - (i + 1) = 0 by omega]; rfl
  · rintro i h1 h2 hf u ⟨e, H⟩
    have e : takeR f 128 128 = some i := by
      rw [e, show 256 - i = (256 - (i + 1)) + 1 by omega]; show (if f i then _ else _) = _; rw [hf, if_neg (by simp)]
    refine rounds _ _ u H.ob ⟨H.ob, H.po fun v H => ⟨_, H.rd0 rfl, ?_⟩⟩
    obtain ⟨Sp, hSp, back⟩ := H.foc0
    refine (p_Use hSp i).mono ?_
    rintro _ v1 ⟨rfl, h1'⟩
    have H := back _ _ _ h1'
    have eu : useR f i = (0, fun k => if k = i then true else f k) := by
      unfold useR
      rw [if_pos (by omega), Int.toNat_natCast, hf, if_neg (by simp)]
    rw [eu] at H ⊢
    refine ⟨_, rfl, H.st fun v H => H.st fun v H => ⟨H.ob, .inr ⟨rfl, i, e, h1, h2, hf, ?_⟩⟩⟩
    exact H.po'
  · rintro _ w' ⟨rfl, ⟨e, H⟩ | ⟨k, e, k1, k2, k3, H⟩⟩
    · refine ⟨⟨_, rfl⟩, .inl ⟨.ready, by decide, H.ob, H.po fun v H => H.st fun v H => H.st fun v H => ⟨H.ob, H.po fun v H => ⟨_, H.rd0 rfl, _, H.rd0 rfl, .inl ⟨e, rfl, H.front⟩⟩⟩⟩⟩
    · refine ⟨⟨_, rfl⟩, .inr ⟨.done, by decide, H.ob, H.po fun v H => ⟨H.ob, H.po fun v H => ⟨_, H.rd0 rfl, _, H.rd0 rfl, .inr ⟨k, e, k1, k2, k3, rfl, H.front⟩⟩⟩⟩⟩

theorem p_Copy (h : (Spc b f).on w S) : Calls P F.«space_Space_Copy» ⟨[.pointer (some ⟨b, 0, none⟩)]⟩ w fun e w' => ∃ b', e = .returned (.pointer (some ⟨b', 0, none⟩)) ∧ Own w NoB [Spc b' f] w' := by
  refine ok_space_Space_Copy ?_
  unfold V_space_Space_Copy
  obtain ⟨g, c, m, hm, H⟩ := Spc.op (Own.of1 h)
  refine (p_is H.ob).mono ?_
  rintro _ _ ⟨rfl, rfl⟩
  refine ⟨_, rfl, bcase_mk (fun h => by cases h) fun _ => fun wd hd => ?_⟩
  have hrow : ∀ {v : World}, Keep NoB w v → v.heap[b]? = some (SpcO (some ⟨g, 0, none⟩) c) ∧ Sl v T.«space_bits» 4 (some ⟨g, 0, none⟩) 1 c (wcs m) := fun k => by
    have H := H.quiet k
    exact ⟨H.ob, (H.has i1).choose_spec.2⟩
  obtain ⟨hb1, hs1⟩ := hrow (Keep.drew _ hd)
  refine ⟨_, cell_at hb1 rfl, _, cell_at hb1 rfl, _, _, _, cell_at hb1 rfl, ?_⟩
  refine ok_slices_Clone_sl_space_bits_space_bits ?_
  unfold V_slices_Clone_sl_space_bits_space_bits
  obtain ⟨v1, hr1, n1⟩ := buildSlice_zero (w := wd) spcElem
  obtain ⟨_, hs2⟩ := hrow ((Keep.drew NoB hd).trans n1.keep fun _ _ h => h)
  have hs3 : Sl v1 T.«space_bits» 4 (some ⟨wd.heap.size, 0, none⟩) 0 0 [] := by
    have := Sl.mk' (sz := 4) (n := 0) (c := 0) n1.at_ (by omega) (by decide) (by simp)
    simpa using this
  obtain ⟨a', c', v2, hr2, hs4, k4, hb4⟩ := append_own (ty := T.«l_space_bits») spcElem hs3 hs2.srcAll (fun u hu => by
    simp only [wcs, List.mem_cons, List.not_mem_nil, or_false] at hu
    rcases hu with rfl | rfl | rfl | rfl <;> rfl) (by omega)
  refine bcase_mk (fun h => by cases h) fun _ => ⟨_, _, _, _, hr1, _, _, _, _, hr2, _, _, _, rfl, ?_⟩
  have k14 : Keep NoB wd v2 := n1.keep.trans k4 fun g hg h => by rw [h.eq] at hg; omega
  obtain ⟨hb5, _⟩ := hrow ((Keep.drew NoB hd).trans k14 fun _ _ h => h)
  refine ⟨⟨_, cell_at hb5 rfl, rfl⟩, ⟨_, cell_at hb5 rfl, rfl⟩, ?_⟩
  have H2 : Own w NoB [.sl T.«space_bits» 4 a' 1 c' (wcs m)] v2 := by
    refine ⟨⟨Blk a', ⟨Blk a', fun _ => False, ⟨fun _ => Iff.rfl, by simpa using hs4⟩, fun _ h => h, fun _ _ h => h, fun g => by simp⟩, fun g hg => .inr ?_⟩, (Keep.drew NoB hd).trans k14 fun _ _ h => h⟩
    have z := hd.size
    have z1 := n1.size
    rcases hb4 g hg with h | h
    · rw [h.eq]; omega
    · omega
  exact H2.al fun u H => ⟨_, rfl, Spc.cl hm H.up1⟩

end
end Go.Proofs.YtgepmlgkeljelaaGreat.Vc
