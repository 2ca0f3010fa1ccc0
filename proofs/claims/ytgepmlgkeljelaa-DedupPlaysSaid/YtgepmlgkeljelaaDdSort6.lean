/- slices.Sort at []uint32: partialInsertionSort. -/
import Derived.Test.YtgepmlgkeljelaaDdSort5
namespace Go.Proofs.Ytgepmlgkeljelaa.Vc
open Go Go.Proofs Go.Sort

theorem shiftDown_size : ∀ (j : Nat) (d : Array Int), (shiftDown ltInt j d).size = d.size
  | 0, _ => rfl
  | j + 1, d => by
    unfold shiftDown
    split
    · rfl
    · rw [shiftDown_size j, swp_size]
theorem shiftUp_size (b j : Nat) (d : Array Int) : (shiftUp ltInt b j d).size = d.size := by
  fun_induction shiftUp ltInt b j d with
  | case1 => rfl
  | case2 => rename_i ih; rw [ih, swp_size]
  | case3 => rfl
theorem scanSorted_ge (d : Array Int) (b i : Nat) (hib : i ≤ b) : i ≤ scanSorted ltInt d b i ∧ scanSorted ltInt d b i ≤ b := by
  fun_induction scanSorted ltInt d b i with
  | case1 i h ih =>
    simp only [Bool.and_eq_true, decide_eq_true_eq] at h
    have := ih (by omega)
    omega
  | case2 i h => omega

section
variable {w : World} {g c : Nat} {d : Array Int}

theorem s_partialInsertionSort (h : Row w g c d) {a b : Nat} (hab : a < b) (hb : b ≤ d.size) (hsm : d.size ≤ 100000) :
    Calls P F.«slices_partialInsertionSortOrdered_uint32» ⟨[.slice (some ⟨g, 0, none⟩) d.size c, .int .i64 (a : Nat), .int .i64 (b : Nat)]⟩ w fun e w' => e = .returned (.bool (partialInsertionSort ltInt d a b).2) ∧ SPost w g c (partialInsertionSort ltInt d a b).1 w' := by
  refine ok_slices_partialInsertionSortOrdered_uint32 ?_
  unfold V_slices_partialInsertionSortOrdered_uint32
  have e1 : IntKind.wrap .i64 ((a : Int) + 1) = ((a + 1 : Nat) : Int) := by rw [wrap64 (by omega) (by omega)]; omega
  have e2 : IntKind.wrap .i64 ((b : Int) - (a : Int)) = ((b - a : Nat) : Int) := by rw [wrap64 (by omega) (by omega)]; omega
  simp only [e1, e2]
  refine ⟨fun t w' => ∃ (i s : Nat) (d' : Array Int), t.1 = (i : Int) ∧ t.2.1 = 5 - (s : Int) ∧ s ≤ 5 ∧ a + 1 ≤ i ∧ i ≤ b ∧ d'.size = d.size ∧ SPost w g c d' w' ∧ partialIns ltInt a b s i d' = partialInsertionSort ltInt d a b, fun t _ => (5 - t.2.1).toNat,
    ⟨a + 1, 5, d, rfl, rfl, by omega, by omega, by omega, rfl, ⟨h, Keep.refl _ _⟩, rfl⟩, ?_⟩
  rintro _ _ _ w1 ⟨i, s, d', rfl, rfl, hs, hi1, hi2, hsz, hp, he⟩
  refine bcase_mk (fun h5 => ?_) (fun h5 => ?_)
  rotate_left 1
  · have h5 : ¬ (5 - (s : Int)) < 5 := of_decide_eq_false h5
    have hs0 : s = 0 := by omega
    subst hs0
    rw [← he]
    exact ⟨rfl, hp⟩
  have h5 : (5 - (s : Int)) < 5 := of_decide_eq_true h5
  obtain ⟨s', hs'⟩ : ∃ s', s = s' + 1 := ⟨s - 1, by omega⟩
  have hge := scanSorted_ge d' b i hi2
  have hst : partialIns ltInt a b s i d' = (if scanSorted ltInt d' b i = b then (d', true) else if b - a < 50 then (d', false) else
      partialIns ltInt a b s' (scanSorted ltInt d' b i) (
        if b - scanSorted ltInt d' b i ≥ 2 then shiftUp ltInt b (scanSorted ltInt d' b i + 1) (if scanSorted ltInt d' b i - a ≥ 2 then shiftDown ltInt (scanSorted ltInt d' b i - 1) (swp d' (scanSorted ltInt d' b i) (scanSorted ltInt d' b i - 1)) else swp d' (scanSorted ltInt d' b i) (scanSorted ltInt d' b i - 1))
        else if scanSorted ltInt d' b i - a ≥ 2 then shiftDown ltInt (scanSorted ltInt d' b i - 1) (swp d' (scanSorted ltInt d' b i) (scanSorted ltInt d' b i - 1)) else swp d' (scanSorted ltInt d' b i) (scanSorted ltInt d' b i - 1))) := by
    subst hs'
    rfl
  rw [he] at hst
  refine ⟨fun t w' => t.1 = ((scanSorted ltInt d' b i : Nat) : Int) ∧ SPost w g c d' w', ⟨fun t w' => ∃ m : Nat, t.1 = (m : Int) ∧ a + 1 ≤ m ∧ m ≤ b ∧ SPost w g c d' w' ∧ scanSorted ltInt d' b m = scanSorted ltInt d' b i, fun t _ => ((b : Int) - t.1).toNat, ⟨i, rfl, hi1, hi2, hp, rfl⟩, ?_⟩, ?_⟩
  · rintro _ _ w2 ⟨m, rfl, hm1, hm2, hp2, he2⟩
    refine bcase_mk (fun hmb => ?_) (fun hmb w3 hd => ?_)
    · have hmb : (m : Int) < (b : Int) := of_decide_eq_true hmb
      have e3 : IntKind.wrap .i64 ((m : Int) - 1) = ((m - 1 : Nat) : Int) := by rw [wrap64 (by omega) (by omega)]; omega
      have e4 : IntKind.wrap .i64 ((m : Int) + 1) = ((m + 1 : Nat) : Int) := by rw [wrap64 (by omega) (by omega)]; omega
      simp only [e3, e4]
      rw [← hsz] at hb hsm ⊢
      refine ⟨⟨by omega, by omega⟩, _, hp2.1.cell (i := m) (by omega), ⟨by omega, by omega⟩, _, hp2.1.cell (i := m - 1) (by omega), fun w3 hd => (s_Less w3 _ _).mono ?_⟩
      rintro _ _ ⟨rfl, rfl⟩
      have hsc : scanSorted ltInt d' b m = if !ltInt d'[m]! d'[m - 1]! then scanSorted ltInt d' b (m + 1) else m := by
        conv => lhs; unfold scanSorted
        simp only [show decide (m < b) = true by simp; omega, Bool.true_and]
      refine ⟨_, rfl, bcase_mk (fun hl => ?_) (fun hl => ?_)⟩
      · rw [if_pos hl] at hsc
        exact ⟨⟨m + 1, rfl, by omega, by omega, hp2.drew hd, by rw [← hsc]; exact he2⟩, by show ((b : Int) - ((m + 1 : Nat) : Int)).toNat < ((b : Int) - (m : Int)).toNat; omega⟩
      · rw [if_neg (by rw [hl]; simp)] at hsc
        exact ⟨by show (m : Int) = _; rw [← he2, hsc], hp2.drew hd⟩
    · have hmb : ¬ (m : Int) < (b : Int) := of_decide_eq_false hmb
      have hsc : scanSorted ltInt d' b m = m := by unfold scanSorted; rw [if_neg (by simp; intro; omega)]
      exact ⟨by show (m : Int) = _; rw [← he2, hsc], hp2.drew hd⟩
  rintro _ _ w2 ⟨rfl, hp2⟩
  generalize scanSorted ltInt d' b i = m at hst hge
  refine bcase_mk (fun hmb => ?_) (fun hmb => bcase_mk (fun h50 => ?_) (fun h50 => ?_))
  · have hmb : m = b := by have : (m : Int) = (b : Int) := by simpa using hmb
                           omega
    rw [if_pos hmb] at hst
    rw [hst]
    exact ⟨rfl, hp2⟩
  · have hmb : ¬ m = b := by have : ¬ (m : Int) = (b : Int) := by simpa using hmb
                             omega
    have h50 : ((b - a : Nat) : Int) < 50 := of_decide_eq_true h50
    rw [if_neg hmb, if_pos (by omega)] at hst
    rw [hst]
    exact ⟨rfl, hp2⟩
  have hmb : ¬ m = b := by have : ¬ (m : Int) = (b : Int) := by simpa using hmb
                           omega
  have h50 : ¬ ((b - a : Nat) : Int) < 50 := of_decide_eq_false h50
  rw [if_neg hmb, if_neg (by omega)] at hst
  have e3 : IntKind.wrap .i64 ((m : Int) - 1) = ((m - 1 : Nat) : Int) := by rw [wrap64 (by omega) (by omega)]; omega
  have e4 : IntKind.wrap .i64 ((m : Int) - (a : Int)) = ((m - a : Nat) : Int) := by rw [wrap64 (by omega) (by omega)]; omega
  have e5 : IntKind.wrap .i64 ((b : Int) - (m : Int)) = ((b - m : Nat) : Int) := by rw [wrap64 (by omega) (by omega)]; omega
  have e6 : IntKind.wrap .i64 ((m : Int) + 1) = ((m + 1 : Nat) : Int) := by rw [wrap64 (by omega) (by omega)]; omega
  have e7 : IntKind.wrap .i64 ((5 - (s : Int)) + 1) = 5 - (s' : Int) := by rw [wrap64 (by omega) (by omega)]; omega
  simp only [e3, e4, e5, e6, e7]
  rw [← hsz] at hb hsm ⊢
  have again : ∀ (nz : Nat), nz = d.size → ∀ (d2 : Array Int) w', d2.size = d'.size → SPost w g c d2 w' → partialIns ltInt a b s' m d2 = partialInsertionSort ltInt d a b →
      (∃ (i s : Nat) (d' : Array Int), (m : Int) = (i : Int) ∧ 5 - (s' : Int) = 5 - (s : Int) ∧ s ≤ 5 ∧ a + 1 ≤ i ∧ i ≤ b ∧ d'.size = nz ∧ SPost w g c d' w' ∧ partialIns ltInt a b s i d' = partialInsertionSort ltInt d a b) ∧ (5 - (5 - (s' : Int))).toNat < (5 - (5 - (s : Int))).toNat :=
    fun nz hnz d2 w' h1 h2 h3 => ⟨⟨m, s', d2, rfl, rfl, by omega, by omega, by omega, by rw [h1, hsz, hnz], h2, h3⟩, by omega⟩
  refine ⟨⟨by omega, by omega⟩, _, hp2.1.cell (i := m - 1) (by omega), ⟨by omega, by omega⟩, _, hp2.1.cell (i := m) (by omega), ⟨by omega, by omega⟩, fun w3 hd3 => row_store (hp2.1.drew hd3) (by omega) fun w4 h4 k4 => ⟨⟨by omega, by omega⟩, row_store h4 (by simp; omega) fun w5 h5' k5 => ?_⟩⟩
  have p5 : SPost w g c (swp d' m (m - 1)) w5 := ⟨h5', ((hp2.drew hd3).2.trans k4 fun _ _ h => h).trans k5 fun _ _ h => h⟩
  have z5 : (swp d' m (m - 1)).size = d'.size := swp_size _ _ _
  generalize swp d' m (m - 1) = d5 at p5 hst z5
  clear h4 h5' k4 k5
  have zA : (if m - a ≥ 2 then shiftDown ltInt (m - 1) d5 else d5).size = d'.size := by split; rw [shiftDown_size, z5]; exact z5
  refine ⟨fun _ w' => SPost w g c (if m - a ≥ 2 then shiftDown ltInt (m - 1) d5 else d5) w', bcase_mk (fun hm2 => ?_) (fun hm2 => ?_), ?_⟩
  · have hm2 : ((m - a : Nat) : Int) ≥ 2 := of_decide_eq_true hm2
    rw [if_pos (by omega)]
    refine ⟨fun t w' => ∃ (j : Nat) (d2 : Array Int), t.1 = (j : Int) ∧ j ≤ m - 1 ∧ d2.size = d'.size ∧ SPost w g c d2 w' ∧ shiftDown ltInt j d2 = shiftDown ltInt (m - 1) d5, fun t _ => t.1.toNat, ⟨m - 1, d5, rfl, Nat.le_refl _, z5, p5, rfl⟩, ?_⟩
    rintro _ _ w6 ⟨j, d2, rfl, hj, hz2, p6, he6⟩
    refine bcase_mk (fun hj1 => ?_) (fun hj1 => ?_)
    · have hj1 : (j : Int) ≥ 1 := of_decide_eq_true hj1
      obtain ⟨k, hk⟩ : ∃ k, j = k + 1 := ⟨j - 1, by omega⟩
      have e8 : IntKind.wrap .i64 ((j : Int) - 1) = ((k : Nat) : Int) := by rw [wrap64 (by omega) (by omega)]; omega
      simp only [e8]
      have hsd : shiftDown ltInt j d2 = if !ltInt d2[j]! d2[k]! then d2 else shiftDown ltInt k (swp d2 j k) := by
        subst hk; rfl
      rw [he6] at hsd
      rw [← hz2] at hb hsm ⊢
      refine ⟨⟨by omega, by omega⟩, _, p6.1.cell (i := j) (by omega), ⟨by omega, by omega⟩, _, p6.1.cell (i := k) (by omega), fun w7 hd => (s_Less w7 _ _).mono ?_⟩
      rintro _ _ ⟨rfl, rfl⟩
      have p7 := p6.drew hd
      refine ⟨_, rfl, bcase_mk (fun hl => ?_) (fun hl => ?_)⟩
      · rw [hsd, if_pos hl]; exact p7
      · rw [if_neg (by rw [hl]; simp)] at hsd
        refine ⟨⟨by omega, by omega⟩, _, p7.1.cell (i := k) (by omega), ⟨by omega, by omega⟩, _, p7.1.cell (i := j) (by omega), ⟨by omega, by omega⟩, fun w8 hd8 => row_store (p7.1.drew hd8) (by omega) fun w9 h9 k9 => ⟨⟨by omega, by omega⟩, row_store h9 (by simp; omega) fun w10 h10 k10 => ?_⟩⟩
        exact ⟨⟨k, swp d2 j k, rfl, by omega, by rw [swp_size], ⟨h10, ((p7.drew hd8).2.trans k9 fun _ _ h => h).trans k10 fun _ _ h => h⟩, hsd.symm⟩, by show ((k : Nat) : Int).toNat < ((j : Nat) : Int).toNat; omega⟩
    · have hj1 : ¬ (j : Int) ≥ 1 := of_decide_eq_false hj1
      have hj0 : j = 0 := by omega
      subst hj0
      rw [← he6]; exact p6
  · have hm2 : ¬ ((m - a : Nat) : Int) ≥ 2 := of_decide_eq_false hm2
    rw [if_neg (by omega)]; exact p5
  · rintro _ w6 p6
    generalize (if m - a ≥ 2 then shiftDown ltInt (m - 1) d5 else d5) = dA at p6 hst zA
    refine bcase_mk (fun hb2 => ?_) (fun hb2 => ?_)
    · have hb2 : ((b - m : Nat) : Int) ≥ 2 := of_decide_eq_true hb2
      rw [if_pos (by omega)] at hst
      refine ⟨fun t w' => ∃ (j : Nat) (d2 : Array Int), t.1 = (j : Int) ∧ m + 1 ≤ j ∧ d2.size = d'.size ∧ SPost w g c d2 w' ∧ shiftUp ltInt b j d2 = shiftUp ltInt b (m + 1) dA, fun t _ => ((b : Int) - t.1).toNat, ⟨m + 1, dA, rfl, Nat.le_refl _, zA, p6, rfl⟩, ?_⟩
      rintro _ _ w7 ⟨j, d2, rfl, hj, hz2, p7, he7⟩
      refine bcase_mk (fun hjb => ?_) (fun hjb => ?_)
      · have hjb : (j : Int) < (b : Int) := of_decide_eq_true hjb
        have e8 : IntKind.wrap .i64 ((j : Int) - 1) = ((j - 1 : Nat) : Int) := by rw [wrap64 (by omega) (by omega)]; omega
        have e9 : IntKind.wrap .i64 ((j : Int) + 1) = ((j + 1 : Nat) : Int) := by rw [wrap64 (by omega) (by omega)]; omega
        simp only [e8, e9]
        have hsu : shiftUp ltInt b j d2 = if !ltInt d2[j]! d2[j - 1]! then d2 else shiftUp ltInt b (j + 1) (swp d2 j (j - 1)) := by
          conv => lhs; unfold shiftUp
          rw [if_pos (by omega)]
        rw [he7] at hsu
        rw [← hz2] at hb hsm ⊢
        refine ⟨⟨by omega, by omega⟩, _, p7.1.cell (i := j) (by omega), ⟨by omega, by omega⟩, _, p7.1.cell (i := j - 1) (by omega), fun w8 hd => (s_Less w8 _ _).mono ?_⟩
        rintro _ _ ⟨rfl, rfl⟩
        have p8 := p7.drew hd
        refine ⟨_, rfl, bcase_mk (fun hl => ?_) (fun hl => ?_)⟩
        · rw [if_pos hl] at hsu
          rw [hsu] at hst
          exact again _ (hz2.trans hsz) d2 _ hz2 p8 hst.symm
        · rw [if_neg (by rw [hl]; simp)] at hsu
          refine ⟨⟨by omega, by omega⟩, _, p8.1.cell (i := j - 1) (by omega), ⟨by omega, by omega⟩, _, p8.1.cell (i := j) (by omega), ⟨by omega, by omega⟩, fun w9 hd9 => row_store (p8.1.drew hd9) (by omega) fun w10 h10 k10 => ⟨⟨by omega, by omega⟩, row_store h10 (by simp; omega) fun w11 h11 k11 => ?_⟩⟩
          exact ⟨⟨j + 1, swp d2 j (j - 1), rfl, by omega, by rw [swp_size], ⟨h11, ((p8.drew hd9).2.trans k10 fun _ _ h => h).trans k11 fun _ _ h => h⟩, hsu.symm⟩, by show ((b : Int) - ((j + 1 : Nat) : Int)).toNat < ((b : Int) - (j : Int)).toNat; omega⟩
      · have hjb : ¬ (j : Int) < (b : Int) := of_decide_eq_false hjb
        have hsu : shiftUp ltInt b j d2 = d2 := by unfold shiftUp; rw [if_neg (by omega)]
        rw [he7] at hsu
        rw [hsu] at hst
        exact again _ hsz d2 _ hz2 p7 hst.symm
    · have hb2 : ¬ ((b - m : Nat) : Int) ≥ 2 := of_decide_eq_false hb2
      rw [if_neg (by omega)] at hst
      exact again _ hsz dA _ zA p6 hst.symm
end

end Go.Proofs.Ytgepmlgkeljelaa.Vc
