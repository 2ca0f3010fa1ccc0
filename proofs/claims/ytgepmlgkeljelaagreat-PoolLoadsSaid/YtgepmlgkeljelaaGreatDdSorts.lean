import Derived.Test.YtgepmlgkeljelaaGreatTall
import Derived.Test.YtgepmlgkeljelaaGreatTsort
import Derived.Test.YtgepmlgkeljelaaGreatDdHash
import Derived.Sort.AssemblyPlain
import Derived.Test.YtgepmlgkeljelaaGreatVcN
import Derived.Test.YtgepmlgkeljelaaGreatDdSeq
/- slices.Sort at []uint32: each function does to the row what the library's plain function of its name does. -/
namespace Go.Proofs.YtgepmlgkeljelaaGreat.Vc
open Go Go.Proofs Go.Sort

/-- The row holds d. -/
def Row (w : World) (g c : Nat) (d : Array Int) : Prop := U32 w (some ⟨g, 0, none⟩) c d.toList

namespace Row
variable {w u : World} {g c : Nat} {d : Array Int}
theorem cell (h : Row w g c d) {i : Nat} (hi : i < d.size) : w.cell? ((⟨g, 0, none⟩ : Addr).add (i * 1)) = some (.int .u32 d[i]!) := by
  have hx : d.toList[i]? = some d[i]! := by simp [hi]
  obtain ⟨g', hg, hc⟩ := U32.cell h hx
  cases hg
  exact hc
theorem drew (h : Row w g c d) (hd : Drew w u) : Row u g c d := Sl.keep h (Keep.drew NoB hd) fun _ _ h => h
theorem le (h : Row w g c d) : (d.size : Int) ≤ 9223372036854775807 := by simpa using U32.len_le h
end Row

theorem row_store {w : World} {g c i : Nat} {d : Array Int} {v : Int} {K : World → Prop} (h : Row w g c d) (hi : i < d.size)
    (hk : ∀ u, Row u g c (d.setIfInBounds i v) → Keep (fun b => b = g) w u → K u) :
    (∃ old, w.cell? (((⟨g, 0, none⟩ : Addr).add (i * 1)).add 0) = some old) ∧ w.frozen? (((⟨g, 0, none⟩ : Addr).add (i * 1)).add 0) = false ∧ letW (w.setCell (((⟨g, 0, none⟩ : Addr).add (i * 1)).add 0) (.int .u32 v)) K := by
  have e : ((⟨g, 0, none⟩ : Addr).add (i * 1)).add 0 = (⟨g, 0, none⟩ : Addr).add i := by simp [add_mk]
  rw [e]
  rcases Sl.cases' h with ⟨h1, _⟩ | ⟨g', cur, h1, h2, h3, h4, h5, h6⟩
  · cases h1
  · cases h1
    simp only [Array.length_toList] at h3 h6
    refine store_step h2 (by rw [h5]; omega) fun u hu => hk u ?_ hu.keep
    have := Sl.mk' (n := (d.setIfInBounds i v).toList.length) (sz := 1) hu.at_ (by simpa using h3) h4 (by simpa using h5)
    unfold Row U32
    have e2 : ((d.setIfInBounds i v).toList.map encU) = (cur.setIfInBounds (0 + i) (.int .u32 v)).toList.take ((d.setIfInBounds i v).toList.length * 1) := by
      rw [Array.toList_setIfInBounds, Array.toList_setIfInBounds, List.map_set, ← h6, Nat.zero_add, List.length_set, Array.length_toList, List.take_set]
    rw [e2]
    exact this

section
variable {w : World} {g c : Nat} {d : Array Int}

theorem s_isNaN (w : World) (x : Int) : Calls P F.«cmp_isNaN_uint32» ⟨[.int .u32 x]⟩ w fun e w' => e = .returned (.bool false) ∧ w = w' := by
  refine ok_cmp_isNaN_uint32 ?_
  unfold V_cmp_isNaN_uint32
  exact ⟨by simp, rfl⟩

theorem s_Less (w : World) (x y : Int) : Calls P F.«cmp_Less_uint32» ⟨[.int .u32 x, .int .u32 y]⟩ w fun e w' => e = .returned (.bool (ltInt x y)) ∧ w = w' := by
  refine ok_cmp_Less_uint32 ((s_isNaN w x).mono ?_)
  rintro _ _ ⟨rfl, rfl⟩
  exact ⟨_, rfl, bcase_mk (fun hb => by cases hb) (fun _ => ⟨rfl, rfl⟩)⟩

/-- What a step of the sort does. -/
def SPost (w : World) (g c : Nat) (d : Array Int) (w' : World) : Prop := Row w' g c d ∧ Keep (fun b => b = g) w w'
theorem SPost.trans {w u v : World} {d d' : Array Int} (h : SPost w g c d u) (k : SPost u g c d' v) : SPost w g c d' v := ⟨k.1, h.2.trans k.2 fun _ _ h => h⟩
theorem SPost.drew {w u v : World} (h : SPost w g c d u) (k : Drew u v) : SPost w g c d v := ⟨h.1.drew k, h.2.trans (Keep.drew _ k) fun _ _ h => h⟩

theorem reverseLoop_size (i j : Nat) (d : Array Int) : (reverseLoop i j d).size = d.size := by
  fun_induction reverseLoop i j d with
  | case1 i j d h ih => rw [ih]; simp [swp]
  | case2 i j d h => rfl

theorem s_reverseRange (h : Row w g c d) {a b : Nat} (hab : a < b) (hb : b ≤ d.size) :
    Calls P F.«slices_reverseRangeOrdered_uint32» ⟨[.slice (some ⟨g, 0, none⟩) d.size c, .int .i64 (a : Nat), .int .i64 (b : Nat)]⟩ w fun e w' => e = .returned (.tuple ⟨[]⟩) ∧ SPost w g c (reverseRange d a b) w' := by
  have hll := h.le
  refine ok_slices_reverseRangeOrdered_uint32 ?_
  unfold V_slices_reverseRangeOrdered_uint32
  rw [wrap64 (n := (b : Int) - 1) (by omega) (by omega)]
  refine ⟨fun t w' => ∃ (i j : Nat) (d' : Array Int), t.1 = i ∧ t.2.1 = j ∧ j < b ∧ d'.size = d.size ∧ SPost w g c d' w' ∧ reverseLoop i j d' = reverseRange d a b, fun t _ => (t.2.1 - t.1).toNat,
    ⟨a, b - 1, d, rfl, by show (b : Int) - 1 = ((b - 1 : Nat) : Int); omega, by omega, rfl, ⟨h, Keep.refl _ _⟩, rfl⟩, ?_⟩
  rintro _ _ _ w1 ⟨i, j, d', rfl, rfl, hj, hsz, hp, he⟩
  refine bcase_mk (fun hlt => ?_) (fun hlt => ?_)
  · have hlt : (i : Int) < (j : Int) := of_decide_eq_true hlt
    refine ⟨⟨by omega, by omega⟩, _, hp.1.cell (by omega), ⟨by omega, by omega⟩, _, hp.1.cell (i := i) (by omega), ⟨by omega, by omega⟩, fun w2 hd => row_store (hp.1.drew hd) (by omega) fun w3 h3 k3 => ⟨⟨by omega, by omega⟩, row_store h3 (by simp; omega) fun w4 h4 k4 => ?_⟩⟩
    rw [wrap64 (by omega) (by omega), wrap64 (by omega) (by omega)]
    refine ⟨⟨i + 1, j - 1, swp d' i j, by simp, by show (j : Int) - 1 = ((j - 1 : Nat) : Int); omega, by omega, by simp [swp, hsz], ⟨h4, ((hp.drew hd).2.trans k3 fun _ _ h => h).trans k4 fun _ _ h => h⟩, ?_⟩, by show (((j : Int) - 1) - ((i : Int) + 1)).toNat < ((j : Int) - (i : Int)).toNat; omega⟩
    rw [← he]
    conv => rhs; unfold reverseLoop
    rw [if_pos (by omega)]
  · have hlt : ¬ (i : Int) < (j : Int) := of_decide_eq_false hlt
    refine ⟨rfl, ?_⟩
    rw [← he]
    unfold reverseLoop
    rw [if_neg (by omega)]
    exact hp
theorem swp_size (d : Array Int) (i j : Nat) : (swp d i j).size = d.size := by simp [swp]

theorem s_insertionSort (h : Row w g c d) {a b : Nat} (ha : a ≤ b) (hb : b ≤ d.size) (hsm : d.size ≤ 100000) :
    Calls P F.«slices_insertionSortOrdered_uint32» ⟨[.slice (some ⟨g, 0, none⟩) d.size c, .int .i64 (a : Nat), .int .i64 (b : Nat)]⟩ w fun e w' => e = .returned (.tuple ⟨[]⟩) ∧ SPost w g c (insertionSort ltInt d a b) w' ∧ (insertionSort ltInt d a b).size = d.size := by
  have hll := h.le
  refine ok_slices_insertionSortOrdered_uint32 ?_
  unfold V_slices_insertionSortOrdered_uint32
  rw [wrap64 (n := (a : Int) + 1) (by omega) (by omega)]
  refine ⟨fun t w' => ∃ (i : Nat) (d' : Array Int), t.1 = i ∧ a + 1 ≤ i ∧ d'.size = d.size ∧ SPost w g c d' w' ∧ insOuter ltInt a b i d' = insertionSort ltInt d a b, fun t _ => (b - t.1).toNat,
    ⟨a + 1, d, by simp, by omega, rfl, ⟨h, Keep.refl _ _⟩, rfl⟩, ?_⟩
  rintro _ _ w1 ⟨i, d', rfl, hai, hsz, hp, he⟩
  refine bcase_mk (fun hlt => ?_) (fun hlt => ?_)
  · have hlt : (i : Int) < (b : Int) := of_decide_eq_true hlt
    have hstep : insOuter ltInt a b i d' = insOuter ltInt a b (i + 1) (insInner ltInt a i d') := by
      conv => lhs; unfold insOuter
      rw [if_pos (by omega)]
    rw [hstep] at he
    refine ⟨fun t w' => ∃ (j : Nat) (d2 : Array Int), t.1 = j ∧ j ≤ i ∧ d2.size = d.size ∧ SPost w g c d2 w' ∧ insInner ltInt a j d2 = insInner ltInt a i d', fun t _ => t.1.toNat, ⟨i, d', rfl, Nat.le_refl _, hsz, hp, rfl⟩, ?_⟩
    rintro _ _ w2 ⟨j, d2, rfl, hj, hsz2, hp2, he2⟩
    have done : ∀ w3, SPost w g c d2 w3 → insInner ltInt a j d2 = d2 → (∃ (k : Nat) (d' : Array Int), IntKind.wrap .i64 ((i : Int) + 1) = k ∧ a + 1 ≤ k ∧ d'.size = d.size ∧ SPost w g c d' w3 ∧ insOuter ltInt a b k d' = insertionSort ltInt d a b) ∧ ((b : Int) - IntKind.wrap .i64 ((i : Int) + 1)).toNat < ((b : Int) - (i : Int)).toNat := by
      intro w3 h3 e3
      rw [wrap64 (by omega) (by omega)]
      exact ⟨⟨i + 1, d2, by simp, by omega, hsz2, h3, by rw [← he, ← he2, e3]⟩, by omega⟩
    refine bcase_mk (fun hja => ?_) (fun hja w3 hd => done w3 (hp2.drew hd) ?_)
    · have hja : (j : Int) > (a : Int) := of_decide_eq_true hja
      obtain ⟨k, hk⟩ : ∃ k, j = k + 1 := ⟨j - 1, by omega⟩
      have e1 : IntKind.wrap .i64 ((j : Int) - 1) = ((k : Nat) : Int) := by rw [wrap64 (by omega) (by omega)]; omega
      rw [e1]
      refine ⟨⟨by omega, by omega⟩, _, hp2.1.cell (i := j) (by omega), ⟨by omega, by omega⟩, _, hp2.1.cell (i := k) (by omega), fun w3 hd => (s_Less w3 _ _).mono ?_⟩
      rintro _ _ ⟨rfl, rfl⟩
      have hp3 := hp2.drew hd
      refine ⟨_, rfl, bcase_mk (fun hb1 => ?_) (fun hb1 => done w3 hp3 ?_)⟩
      · refine ⟨⟨by omega, by omega⟩, _, hp3.1.cell (i := k) (by omega), ⟨by omega, by omega⟩, _, hp3.1.cell (i := j) (by omega), ⟨by omega, by omega⟩, fun w4 hd4 => row_store (hp3.1.drew hd4) (by omega) fun w5 h5 k5 => ⟨⟨by omega, by omega⟩, row_store h5 (by simp; omega) fun w6 h6 k6 => ?_⟩⟩
        refine ⟨⟨k, swp d2 j k, rfl, by omega, by rw [swp_size, hsz2], ⟨h6, ((hp3.drew hd4).2.trans k5 fun _ _ h => h).trans k6 fun _ _ h => h⟩, ?_⟩, by show ((k : Nat) : Int).toNat < ((j : Nat) : Int).toNat; omega⟩
        subst hk
        rw [← he2]
        conv => rhs; unfold insInner
        rw [if_pos (by simp [hb1]; omega)]
      · subst hk
        unfold insInner
        rw [if_neg (by simp [hb1])]
    · have hja : ¬ (j : Int) > (a : Int) := of_decide_eq_false hja
      cases j with
      | zero => rfl
      | succ k => unfold insInner; rw [if_neg (by simp; omega)]
  · have hlt : ¬ (i : Int) < (b : Int) := of_decide_eq_false hlt
    have hstep : insOuter ltInt a b i d' = d' := by unfold insOuter; rw [if_neg (by omega)]
    rw [hstep] at he
    subst he
    exact ⟨rfl, hp, hsz⟩
/-- The greater child. -/
def childOf (hi first root : Nat) (d : Array Int) : Nat := if 2 * root + 1 + 1 < hi && ltInt d[first + (2 * root + 1)]! d[first + (2 * root + 1) + 1]! then 2 * root + 2 else 2 * root + 1
theorem childOf_lt {hi first root : Nat} {d : Array Int} (h : 2 * root + 1 < hi) : root < childOf hi first root d ∧ childOf hi first root d < hi := by
  unfold childOf
  split
  · rename_i hc
    simp only [Bool.and_eq_true, decide_eq_true_eq] at hc
    omega
  · omega
theorem siftDown_end {hi first root : Nat} {d : Array Int} (h : 2 * root + 1 ≥ hi) : siftDown ltInt hi first root d = d := by
  unfold siftDown; rw [dif_pos h]
theorem siftDown_step {hi first root : Nat} {d : Array Int} (h : ¬ 2 * root + 1 ≥ hi) :
    siftDown ltInt hi first root d = if !ltInt d[first + root]! d[first + childOf hi first root d]! then d else siftDown ltInt hi first (childOf hi first root d) (swp d (first + root) (first + childOf hi first root d)) := by
  conv => lhs; unfold siftDown
  rw [dif_neg h]
  unfold childOf
  split
  · rename_i hc
    simp only [Bool.and_eq_true, decide_eq_true_eq] at hc
    rw [dif_pos (by omega)]
  · rfl
theorem siftDown_size (hi first root : Nat) (d : Array Int) : (siftDown ltInt hi first root d).size = d.size := by
  fun_induction siftDown ltInt hi first root d with
  | case1 => rfl
  | case2 => rfl
  | case3 => rename_i ih; rw [ih, swp_size]
  | case4 => rfl
  | case5 => rfl
  | case6 => rename_i ih; rw [ih, swp_size]

theorem s_siftDown (h : Row w g c d) (lo hi first : Nat) (hh : first + hi ≤ d.size) (hsm : d.size ≤ 100000) (hlo : lo ≤ 100000) :
    Calls P F.«slices_siftDownOrdered_uint32» ⟨[.slice (some ⟨g, 0, none⟩) d.size c, .int .i64 (lo : Nat), .int .i64 (hi : Nat), .int .i64 (first : Nat)]⟩ w fun e w' => e = .returned (.tuple ⟨[]⟩) ∧ SPost w g c (siftDown ltInt hi first lo d) w' := by
  refine ok_slices_siftDownOrdered_uint32 ⟨fun t w' => ∃ (i : Nat) (d' : Array Int), t.1 = i ∧ i ≤ 100000 ∧ d'.size = d.size ∧ SPost w g c d' w' ∧ siftDown ltInt hi first i d' = siftDown ltInt hi first lo d, fun t _ => ((hi : Int) - t.1).toNat,
    ⟨lo, d, rfl, hlo, rfl, ⟨h, Keep.refl _ _⟩, rfl⟩, ?_⟩
  rintro _ _ w1 ⟨i, d', rfl, hi1, hsz, hp, he⟩
  have e1 : IntKind.wrap .i64 (IntKind.wrap .i64 (2 * (i : Int)) + 1) = ((2 * i + 1 : Nat) : Int) := by
    rw [wrap64 (n := 2 * (i : Int)) (by omega) (by omega), wrap64 (by omega) (by omega)]; omega
  have e2 : IntKind.wrap .i64 (((2 * i + 1 : Nat) : Int) + 1) = ((2 * i + 1 + 1 : Nat) : Int) := by rw [wrap64 (by omega) (by omega)]; omega
  have e3 : IntKind.wrap .i64 ((first : Int) + ((2 * i + 1 : Nat) : Int)) = ((first + (2 * i + 1) : Nat) : Int) := by rw [wrap64 (by omega) (by omega)]; omega
  have e4 : IntKind.wrap .i64 (((first + (2 * i + 1) : Nat) : Int) + 1) = ((first + (2 * i + 1) + 1 : Nat) : Int) := by rw [wrap64 (by omega) (by omega)]; omega
  have e5 : IntKind.wrap .i64 ((first : Int) + (i : Int)) = ((first + i : Nat) : Int) := by rw [wrap64 (by omega) (by omega)]; omega
  simp only [e1, e2, e3, e4, e5]
  refine bcase_mk (fun hge => ?_) (fun hge => ?_)
  · have hge : ((2 * i + 1 : Nat) : Int) ≥ (hi : Int) := of_decide_eq_true hge
    rw [siftDown_end (by omega)] at he
    subst he
    exact ⟨by first | exact rfl | exact trivial, hp⟩
  · have hge : ¬ ((2 * i + 1 : Nat) : Int) ≥ (hi : Int) := of_decide_eq_false hge
    have hst := siftDown_step (hi := hi) (first := first) (root := i) (d := d') (by omega)
    obtain ⟨hc1, hc2⟩ := childOf_lt (hi := hi) (first := first) (root := i) (d := d') (by omega)
    rw [he] at hst
    refine ⟨fun t w' => t.1 = ((childOf hi first i d' : Nat) : Int) ∧ SPost w g c d' w', bcase_mk (fun h2 => ?_) (fun h2 w2 hd => ⟨?_, hp.drew hd⟩), ?_⟩
    · have h2 : ((2 * i + 1 + 1 : Nat) : Int) < (hi : Int) := of_decide_eq_true h2
      refine ⟨⟨by omega, by omega⟩, _, hp.1.cell (i := first + (2 * i + 1)) (by omega), ⟨by omega, by omega⟩, _, hp.1.cell (i := first + (2 * i + 1) + 1) (by omega), fun w2 hd => (s_Less w2 _ _).mono ?_⟩
      rintro _ _ ⟨rfl, rfl⟩
      refine ⟨_, rfl, bcase_mk (fun hb => ⟨?_, hp.drew hd⟩) (fun hb => ⟨?_, hp.drew hd⟩)⟩
      · show ((2 * i + 1 + 1 : Nat) : Int) = _
        unfold childOf
        rw [if_pos (by simp [hb]; omega)]
      · show ((2 * i + 1 : Nat) : Int) = _
        unfold childOf
        rw [if_neg (by simp [hb])]
    · have h2 : ¬ ((2 * i + 1 + 1 : Nat) : Int) < (hi : Int) := of_decide_eq_false h2
      show ((2 * i + 1 : Nat) : Int) = _
      unfold childOf
      rw [if_neg (by simp; intro; omega)]
    · rintro _ _ w3 ⟨rfl, hp3⟩
      generalize childOf hi first i d' = ch at hc1 hc2 hst
      have e6 : IntKind.wrap .i64 ((first : Int) + (ch : Int)) = ((first + ch : Nat) : Int) := by rw [wrap64 (by omega) (by omega)]; omega
      simp only [e6]
      refine ⟨⟨by omega, by omega⟩, _, hp3.1.cell (i := first + i) (by omega), ⟨by omega, by omega⟩, _, hp3.1.cell (i := first + ch) (by omega), fun w4 hd => (s_Less w4 _ _).mono ?_⟩
      rintro _ _ ⟨rfl, rfl⟩
      have hp4 := hp3.drew hd
      refine ⟨_, rfl, bcase_mk (fun hb => ⟨by first | exact rfl | exact trivial, ?_⟩) (fun hb => ⟨⟨by omega, by omega⟩, _, hp4.1.cell (i := first + ch) (by omega), ⟨by omega, by omega⟩, _, hp4.1.cell (i := first + i) (by omega), ⟨by omega, by omega⟩, fun w5 hd5 => row_store (hp4.1.drew hd5) (by omega) fun w6 h6 k6 => ⟨⟨by omega, by omega⟩, row_store h6 (by simp; omega) fun w7 h7 k7 => ?_⟩⟩)⟩
      · rw [hst, if_pos hb]; exact hp4
      · rw [if_neg (by rw [hb]; simp)] at hst
        exact ⟨⟨ch, swp d' (first + i) (first + ch), rfl, by omega, by rw [swp_size, hsz], ⟨h7, ((hp4.drew hd5).2.trans k6 fun _ _ h => h).trans k7 fun _ _ h => h⟩, hst.symm⟩, by show ((hi : Int) - (ch : Int)).toNat < ((hi : Int) - (i : Int)).toNat; omega⟩

theorem heapBuild_size (hi first : Nat) : ∀ (k : Nat) (d : Array Int), (heapBuild ltInt hi first k d).size = d.size
  | 0, _ => rfl
  | k + 1, d => by unfold heapBuild; rw [heapBuild_size hi first k, siftDown_size]
theorem heapPop_size (first : Nat) : ∀ (k : Nat) (d : Array Int), (heapPop ltInt first k d).size = d.size
  | 0, _ => rfl
  | k + 1, d => by unfold heapPop; rw [heapPop_size first k, siftDown_size, swp_size]

theorem s_heapSort (h : Row w g c d) {a b : Nat} (ha : a < b) (hb : b ≤ d.size) (hsm : d.size ≤ 100000) :
    Calls P F.«slices_heapSortOrdered_uint32» ⟨[.slice (some ⟨g, 0, none⟩) d.size c, .int .i64 (a : Nat), .int .i64 (b : Nat)]⟩ w fun e w' => e = .returned (.tuple ⟨[]⟩) ∧ SPost w g c (heapSort ltInt d a b) w' ∧ (heapSort ltInt d a b).size = d.size := by
  refine ok_slices_heapSortOrdered_uint32 ?_
  unfold V_slices_heapSortOrdered_uint32
  have e1 : IntKind.wrap .i64 ((b : Int) - (a : Int)) = ((b - a : Nat) : Int) := by rw [wrap64 (by omega) (by omega)]; omega
  have e2 : IntKind.wrap .i64 (((b - a : Nat) : Int) - 1) = ((b - a - 1 : Nat) : Int) := by rw [wrap64 (by omega) (by omega)]; omega
  have e3 : Int.tdiv ((b - a - 1 : Nat) : Int) 2 = (((b - a - 1) / 2 : Nat) : Int) := rfl
  have e4 : IntKind.wrap .i64 (((b - a - 1) / 2 : Nat) : Int) = (((b - a - 1) / 2 : Nat) : Int) := wrap64 (by omega) (by omega)
  simp only [e1, e2, e3, e4]
  have hend : heapPop ltInt a (b - a) (heapBuild ltInt (b - a) a ((b - a - 1) / 2 + 1) d) = heapSort ltInt d a b := rfl
  refine ⟨by decide, fun t w' => ∃ (k : Nat) (d' : Array Int), t.1 = (k : Int) - 1 ∧ k ≤ 100000 ∧ d'.size = d.size ∧ SPost w g c d' w' ∧ heapBuild ltInt (b - a) a k d' = heapBuild ltInt (b - a) a ((b - a - 1) / 2 + 1) d, fun t _ => (t.1 + 1).toNat,
    ⟨(b - a - 1) / 2 + 1, d, by show (((b - a - 1) / 2 : Nat) : Int) = (((b - a - 1) / 2 + 1 : Nat) : Int) - 1; omega, by omega, rfl, ⟨h, Keep.refl _ _⟩, rfl⟩, ?_⟩
  rintro _ _ w1 ⟨k, d', rfl, hk, hsz, hp, he⟩
  refine bcase_mk (fun hge => ?_) (fun hge => ?_)
  · have hge : (k : Int) - 1 ≥ 0 := of_decide_eq_true hge
    obtain ⟨j, rfl⟩ : ∃ j, k = j + 1 := ⟨k - 1, by omega⟩
    have e5 : ((j + 1 : Nat) : Int) - 1 = ((j : Nat) : Int) := by omega
    have hs := s_siftDown hp.1 j (b - a) a (by omega) (by omega) (by omega)
    rw [hsz] at hs
    simp only [e5]
    refine hs.mono ?_
    rintro _ w2 ⟨rfl, hp2⟩
    have e6 : IntKind.wrap .i64 ((j : Int) - 1) = (j : Int) - 1 := wrap64 (by omega) (by omega)
    rw [e6]
    refine ⟨by first | exact rfl | exact trivial, ⟨j, _, rfl, by omega, by rw [siftDown_size, hsz], hp.trans hp2, by rw [← he]; rfl⟩, ?_⟩
    show (((j : Int) - 1) + 1).toNat < (((j : Nat) : Int) + 1).toNat
    omega
  · have hge : ¬ (k : Int) - 1 ≥ 0 := of_decide_eq_false hge
    have hk0 : k = 0 := by omega
    subst hk0
    have he : d' = heapBuild ltInt (b - a) a ((b - a - 1) / 2 + 1) d := he
    rw [← he] at hend
    refine ⟨fun t w' => ∃ (k : Nat) (d2 : Array Int), t.1 = (k : Int) - 1 ∧ k ≤ b - a ∧ d2.size = d.size ∧ SPost w g c d2 w' ∧ heapPop ltInt a k d2 = heapPop ltInt a (b - a) d', fun t _ => (t.1 + 1).toNat,
      ⟨b - a, d', by show ((b - a - 1 : Nat) : Int) = ((b - a : Nat) : Int) - 1; omega, Nat.le_refl _, hsz, hp, rfl⟩, ?_⟩
    rintro _ _ w2 ⟨k, d2, rfl, hk2, hsz2, hp2, he2⟩
    refine bcase_mk (fun hge => ?_) (fun hge => ?_)
    · have hge : (k : Int) - 1 ≥ 0 := of_decide_eq_true hge
      obtain ⟨j, hj⟩ : ∃ j, k = j + 1 := ⟨k - 1, by omega⟩
      have e5 : (k : Int) - 1 = ((j : Nat) : Int) := by omega
      have e6 : IntKind.wrap .i64 ((a : Int) + (j : Int)) = ((a + j : Nat) : Int) := by rw [wrap64 (by omega) (by omega)]; omega
      have e7 : IntKind.wrap .i64 ((j : Int) - 1) = (j : Int) - 1 := wrap64 (by omega) (by omega)
      simp only [e5, e6, e7]
      refine ⟨⟨by omega, by omega⟩, _, hp2.1.cell (i := a + j) (by omega), ⟨by omega, by omega⟩, _, hp2.1.cell (i := a) (by omega), ⟨by omega, by omega⟩, fun w3 hd => row_store (hp2.1.drew hd) (by omega) fun w4 h4 k4 => ⟨⟨by omega, by omega⟩, row_store h4 (by simp; omega) fun w5 h5 k5 => ?_⟩⟩
      have hp5 : SPost w g c (swp d2 a (a + j)) w5 := ⟨h5, ((hp2.drew hd).2.trans k4 fun _ _ h => h).trans k5 fun _ _ h => h⟩
      have hs := s_siftDown hp5.1 0 j a (by rw [swp_size]; omega) (by rw [swp_size]; omega) (by omega)
      rw [swp_size, hsz2] at hs
      refine hs.mono ?_
      rintro _ w6 ⟨rfl, hp6⟩
      refine ⟨rfl, ⟨j, _, rfl, by omega, by rw [siftDown_size, swp_size, hsz2], hp5.trans hp6, by rw [← he2, hj]; rfl⟩, ?_⟩
      show (((j : Int) - 1) + 1).toNat < (((j : Nat) : Int) + 1).toNat
      omega
    · have hge : ¬ (k : Int) - 1 ≥ 0 := of_decide_eq_false hge
      have hk0 : k = 0 := by omega
      subst hk0
      have he2 : d2 = heapPop ltInt a (b - a) d' := he2
      rw [hend] at he2
      subst he2
      exact ⟨by first | exact rfl | exact trivial, hp2, hsz2⟩
end

end Go.Proofs.YtgepmlgkeljelaaGreat.Vc

/- slices.Sort at []uint32: the partitions. -/
namespace Go.Proofs.YtgepmlgkeljelaaGreat.Vc
open Go Go.Proofs Go.Sort

section
variable {w0 w : World} {g c : Nat} {d : Array Int} {k : Nat} {J : Int → World → Prop}

/-- 'for i <= j && less(data[i], data[a]) { i++ }'. -/
theorem up_vc (h : SPost w0 g c d w) {a i j : Nat} (ha : a < d.size) (hj : j < d.size) (hsm : d.size ≤ 100000) (hi : i ≤ 100000) (hJ : ∀ w', SPost w0 g c d w' → J ((scanUp (fun x => ltInt x d[a]!) d j i : Nat) : Int) w') :
    ∃ (I3 : Tup [(k, (.int .i64))] → World → Prop) (μ3 : Tup [(k, (.int .i64))] → World → Nat), I3 ((i : Int), ()) w ∧
    ∀ (_ : St) (n10 : Int) (wL3 : World), I3 (n10, ()) wL3 →
    bcase (decide (n10 ≤ (j : Int))) (
      (0 ≤ n10 ∧ n10 < (d.size : Int)) ∧
      ptrW (some ⟨g, 0, none⟩) fun a36 =>
      ∃ n37 : Int, wL3.cell? (a36.add (n10.toNat * 1)) = some (.int .u32 n37) ∧
      (0 ≤ (a : Int) ∧ (a : Int) < (d.size : Int)) ∧
      ptrW (some ⟨g, 0, none⟩) fun a40 =>
      ∃ n41 : Int, wL3.cell? (a40.add ((a : Int).toNat * 1)) = some (.int .u32 n41) ∧
      ∀ wd3, Drew wL3 wd3 →
      Calls P F.«cmp_Less_uint32» ⟨[.int .u32 n37, .int .u32 n41]⟩ wd3 fun e42 w42 => ∃ b42 : Bool, e42 = .returned (.bool b42) ∧
      bcase b42 (
        I3 ((IntKind.wrap .i64 (n10 + 1)), ()) w42 ∧ μ3 ((IntKind.wrap .i64 (n10 + 1)), ()) w42 < μ3 (n10, ()) wL3)
        (J n10 w42))
      (∀ wd3, Drew wL3 wd3 → J n10 wd3) := by
  refine ⟨fun t w' => ∃ m : Nat, t.1 = m ∧ m ≤ 100000 ∧ SPost w0 g c d w' ∧ scanUp (fun x => ltInt x d[a]!) d j m = scanUp (fun x => ltInt x d[a]!) d j i, fun t _ => ((j : Int) + 1 - t.1).toNat, ⟨i, rfl, hi, h, rfl⟩, ?_⟩
  rintro _ _ w1 ⟨m, rfl, hm, hp, he⟩
  refine bcase_mk (fun hb => ?_) (fun hb w2 hd => ?_)
  · have hb : (m : Int) ≤ (j : Int) := of_decide_eq_true hb
    refine ⟨⟨by omega, by omega⟩, _, hp.1.cell (i := m) (by omega), ⟨by omega, by omega⟩, _, hp.1.cell (i := a) ha, fun w2 hd => (s_Less w2 _ _).mono ?_⟩
    rintro _ _ ⟨rfl, rfl⟩
    have hst : scanUp (fun x => ltInt x d[a]!) d j m = if ltInt d[m]! d[a]! then scanUp (fun x => ltInt x d[a]!) d j (m + 1) else m := by
      conv => lhs; unfold scanUp
      simp only [show decide (m ≤ j) = true by simp; omega, Bool.true_and]
    refine ⟨_, rfl, bcase_mk (fun hl => ?_) (fun hl => ?_)⟩
    · rw [if_pos hl] at hst
      rw [wrap64 (by omega) (by omega)]
      exact ⟨⟨m + 1, by simp, by omega, hp.drew hd, by rw [← hst]; exact he⟩, by show ((j : Int) + 1 - ((m : Int) + 1)).toNat < ((j : Int) + 1 - (m : Int)).toNat; omega⟩
    · rw [if_neg (by rw [hl]; simp)] at hst
      rw [hst] at he
      rw [he]
      exact hJ _ (hp.drew hd)
  · have hb : ¬ (m : Int) ≤ (j : Int) := of_decide_eq_false hb
    have hst : scanUp (fun x => ltInt x d[a]!) d j m = m := by
      unfold scanUp
      rw [if_neg (by simp; intro; omega)]
    rw [hst] at he
    rw [he]
    exact hJ _ (hp.drew hd)

/-- 'for i <= j && !less(data[j], data[a]) { j-- }'. -/
theorem down_vc (h : SPost w0 g c d w) {a i j : Nat} (ha : a < d.size) (hj : j < d.size) (hsm : d.size ≤ 100000) (hi : 1 ≤ i) (hJ : ∀ w', SPost w0 g c d w' → J ((scanDown (fun x => !ltInt x d[a]!) d i j : Nat) : Int) w') :
    ∃ (I3 : Tup [(k, (.int .i64))] → World → Prop) (μ3 : Tup [(k, (.int .i64))] → World → Nat), I3 ((j : Int), ()) w ∧
    ∀ (_ : St) (n10 : Int) (wL3 : World), I3 (n10, ()) wL3 →
    bcase (decide ((i : Int) ≤ n10)) (
      (0 ≤ n10 ∧ n10 < (d.size : Int)) ∧
      ptrW (some ⟨g, 0, none⟩) fun a36 =>
      ∃ n37 : Int, wL3.cell? (a36.add (n10.toNat * 1)) = some (.int .u32 n37) ∧
      (0 ≤ (a : Int) ∧ (a : Int) < (d.size : Int)) ∧
      ptrW (some ⟨g, 0, none⟩) fun a40 =>
      ∃ n41 : Int, wL3.cell? (a40.add ((a : Int).toNat * 1)) = some (.int .u32 n41) ∧
      ∀ wd3, Drew wL3 wd3 →
      Calls P F.«cmp_Less_uint32» ⟨[.int .u32 n37, .int .u32 n41]⟩ wd3 fun e42 w42 => ∃ b42 : Bool, e42 = .returned (.bool b42) ∧
      bcase (!b42) (
        I3 ((IntKind.wrap .i64 (n10 - 1)), ()) w42 ∧ μ3 ((IntKind.wrap .i64 (n10 - 1)), ()) w42 < μ3 (n10, ()) wL3)
        (J n10 w42))
      (∀ wd3, Drew wL3 wd3 → J n10 wd3) := by
  refine ⟨fun t w' => ∃ m : Nat, t.1 = m ∧ m ≤ j ∧ SPost w0 g c d w' ∧ scanDown (fun x => !ltInt x d[a]!) d i m = scanDown (fun x => !ltInt x d[a]!) d i j, fun t _ => t.1.toNat, ⟨j, rfl, Nat.le_refl _, h, rfl⟩, ?_⟩
  rintro _ _ w1 ⟨m, rfl, hm, hp, he⟩
  refine bcase_mk (fun hb => ?_) (fun hb w2 hd => ?_)
  · have hb : (i : Int) ≤ (m : Int) := of_decide_eq_true hb
    obtain ⟨n, hn⟩ : ∃ n, m = n + 1 := ⟨m - 1, by omega⟩
    refine ⟨⟨by omega, by omega⟩, _, hp.1.cell (i := m) (by omega), ⟨by omega, by omega⟩, _, hp.1.cell (i := a) ha, fun w2 hd => (s_Less w2 _ _).mono ?_⟩
    rintro _ _ ⟨rfl, rfl⟩
    have hst : scanDown (fun x => !ltInt x d[a]!) d i m = if !ltInt d[m]! d[a]! then scanDown (fun x => !ltInt x d[a]!) d i n else m := by
      subst hn
      conv => lhs; unfold scanDown
      simp only [show decide (i ≤ n + 1) = true by simp; omega, Bool.true_and]
    refine ⟨_, rfl, bcase_mk (fun hl => ?_) (fun hl => ?_)⟩
    · rw [if_pos hl] at hst
      rw [wrap64 (by omega) (by omega)]
      exact ⟨⟨n, by show (m : Int) - 1 = (n : Int); omega, by omega, hp.drew hd, by rw [← hst]; exact he⟩, by show ((m : Int) - 1).toNat < (m : Int).toNat; omega⟩
    · rw [if_neg (by rw [hl]; simp)] at hst
      rw [hst] at he
      rw [he]
      exact hJ _ (hp.drew hd)
  · have hb : ¬ (i : Int) ≤ (m : Int) := of_decide_eq_false hb
    have hst : scanDown (fun x => !ltInt x d[a]!) d i m = m := by
      cases m with
      | zero => rfl
      | succ n => unfold scanDown; rw [if_neg (by simp; intro; omega)]
    rw [hst] at he
    rw [he]
    exact hJ _ (hp.drew hd)
/-- 'for i <= j && !less(data[a], data[i]) { i++ }'. -/
theorem upE_vc (h : SPost w0 g c d w) {a i j : Nat} (ha : a < d.size) (hj : j < d.size) (hsm : d.size ≤ 100000) (hi : i ≤ 100000) (hJ : ∀ w', SPost w0 g c d w' → J ((scanUp (fun x => !ltInt d[a]! x) d j i : Nat) : Int) w') :
    ∃ (I3 : Tup [(k, (.int .i64))] → World → Prop) (μ3 : Tup [(k, (.int .i64))] → World → Nat), I3 ((i : Int), ()) w ∧
    ∀ (_ : St) (n10 : Int) (wL3 : World), I3 (n10, ()) wL3 →
    bcase (decide (n10 ≤ (j : Int))) (
      (0 ≤ (a : Int) ∧ (a : Int) < (d.size : Int)) ∧
      ptrW (some ⟨g, 0, none⟩) fun a36 =>
      ∃ n37 : Int, wL3.cell? (a36.add ((a : Int).toNat * 1)) = some (.int .u32 n37) ∧
      (0 ≤ n10 ∧ n10 < (d.size : Int)) ∧
      ptrW (some ⟨g, 0, none⟩) fun a40 =>
      ∃ n41 : Int, wL3.cell? (a40.add (n10.toNat * 1)) = some (.int .u32 n41) ∧
      ∀ wd3, Drew wL3 wd3 →
      Calls P F.«cmp_Less_uint32» ⟨[.int .u32 n37, .int .u32 n41]⟩ wd3 fun e42 w42 => ∃ b42 : Bool, e42 = .returned (.bool b42) ∧
      bcase (!b42) (
        I3 ((IntKind.wrap .i64 (n10 + 1)), ()) w42 ∧ μ3 ((IntKind.wrap .i64 (n10 + 1)), ()) w42 < μ3 (n10, ()) wL3)
        (J n10 w42))
      (∀ wd3, Drew wL3 wd3 → J n10 wd3) := by
  refine ⟨fun t w' => ∃ m : Nat, t.1 = m ∧ m ≤ 100000 ∧ SPost w0 g c d w' ∧ scanUp (fun x => !ltInt d[a]! x) d j m = scanUp (fun x => !ltInt d[a]! x) d j i, fun t _ => ((j : Int) + 1 - t.1).toNat, ⟨i, rfl, hi, h, rfl⟩, ?_⟩
  rintro _ _ w1 ⟨m, rfl, hm, hp, he⟩
  refine bcase_mk (fun hb => ?_) (fun hb w2 hd => ?_)
  · have hb : (m : Int) ≤ (j : Int) := of_decide_eq_true hb
    refine ⟨⟨by omega, by omega⟩, _, hp.1.cell (i := a) ha, ⟨by omega, by omega⟩, _, hp.1.cell (i := m) (by omega), fun w2 hd => (s_Less w2 _ _).mono ?_⟩
    rintro _ _ ⟨rfl, rfl⟩
    have hst : scanUp (fun x => !ltInt d[a]! x) d j m = if !ltInt d[a]! d[m]! then scanUp (fun x => !ltInt d[a]! x) d j (m + 1) else m := by
      conv => lhs; unfold scanUp
      simp only [show decide (m ≤ j) = true by simp; omega, Bool.true_and]
    refine ⟨_, rfl, bcase_mk (fun hl => ?_) (fun hl => ?_)⟩
    · rw [if_pos hl] at hst
      rw [wrap64 (by omega) (by omega)]
      exact ⟨⟨m + 1, by simp, by omega, hp.drew hd, by rw [← hst]; exact he⟩, by show ((j : Int) + 1 - ((m : Int) + 1)).toNat < ((j : Int) + 1 - (m : Int)).toNat; omega⟩
    · rw [if_neg (by rw [hl]; simp)] at hst
      rw [hst] at he
      rw [he]
      exact hJ _ (hp.drew hd)
  · have hb : ¬ (m : Int) ≤ (j : Int) := of_decide_eq_false hb
    have hst : scanUp (fun x => !ltInt d[a]! x) d j m = m := by
      unfold scanUp
      rw [if_neg (by simp; intro; omega)]
    rw [hst] at he
    rw [he]
    exact hJ _ (hp.drew hd)

/-- 'for i <= j && less(data[a], data[j]) { j-- }'. -/
theorem downE_vc (h : SPost w0 g c d w) {a i j : Nat} (ha : a < d.size) (hj : j < d.size) (hsm : d.size ≤ 100000) (hi : 1 ≤ i) (hJ : ∀ w', SPost w0 g c d w' → J ((scanDown (fun x => ltInt d[a]! x) d i j : Nat) : Int) w') :
    ∃ (I3 : Tup [(k, (.int .i64))] → World → Prop) (μ3 : Tup [(k, (.int .i64))] → World → Nat), I3 ((j : Int), ()) w ∧
    ∀ (_ : St) (n10 : Int) (wL3 : World), I3 (n10, ()) wL3 →
    bcase (decide ((i : Int) ≤ n10)) (
      (0 ≤ (a : Int) ∧ (a : Int) < (d.size : Int)) ∧
      ptrW (some ⟨g, 0, none⟩) fun a36 =>
      ∃ n37 : Int, wL3.cell? (a36.add ((a : Int).toNat * 1)) = some (.int .u32 n37) ∧
      (0 ≤ n10 ∧ n10 < (d.size : Int)) ∧
      ptrW (some ⟨g, 0, none⟩) fun a40 =>
      ∃ n41 : Int, wL3.cell? (a40.add (n10.toNat * 1)) = some (.int .u32 n41) ∧
      ∀ wd3, Drew wL3 wd3 →
      Calls P F.«cmp_Less_uint32» ⟨[.int .u32 n37, .int .u32 n41]⟩ wd3 fun e42 w42 => ∃ b42 : Bool, e42 = .returned (.bool b42) ∧
      bcase b42 (
        I3 ((IntKind.wrap .i64 (n10 - 1)), ()) w42 ∧ μ3 ((IntKind.wrap .i64 (n10 - 1)), ()) w42 < μ3 (n10, ()) wL3)
        (J n10 w42))
      (∀ wd3, Drew wL3 wd3 → J n10 wd3) := by
  refine ⟨fun t w' => ∃ m : Nat, t.1 = m ∧ m ≤ j ∧ SPost w0 g c d w' ∧ scanDown (fun x => ltInt d[a]! x) d i m = scanDown (fun x => ltInt d[a]! x) d i j, fun t _ => t.1.toNat, ⟨j, rfl, Nat.le_refl _, h, rfl⟩, ?_⟩
  rintro _ _ w1 ⟨m, rfl, hm, hp, he⟩
  refine bcase_mk (fun hb => ?_) (fun hb w2 hd => ?_)
  · have hb : (i : Int) ≤ (m : Int) := of_decide_eq_true hb
    obtain ⟨n, hn⟩ : ∃ n, m = n + 1 := ⟨m - 1, by omega⟩
    refine ⟨⟨by omega, by omega⟩, _, hp.1.cell (i := a) ha, ⟨by omega, by omega⟩, _, hp.1.cell (i := m) (by omega), fun w2 hd => (s_Less w2 _ _).mono ?_⟩
    rintro _ _ ⟨rfl, rfl⟩
    have hst : scanDown (fun x => ltInt d[a]! x) d i m = if ltInt d[a]! d[m]! then scanDown (fun x => ltInt d[a]! x) d i n else m := by
      subst hn
      conv => lhs; unfold scanDown
      simp only [show decide (i ≤ n + 1) = true by simp; omega, Bool.true_and]
    refine ⟨_, rfl, bcase_mk (fun hl => ?_) (fun hl => ?_)⟩
    · rw [if_pos hl] at hst
      rw [wrap64 (by omega) (by omega)]
      exact ⟨⟨n, by show (m : Int) - 1 = (n : Int); omega, by omega, hp.drew hd, by rw [← hst]; exact he⟩, by show ((m : Int) - 1).toNat < (m : Int).toNat; omega⟩
    · rw [if_neg (by rw [hl]; simp)] at hst
      rw [hst] at he
      rw [he]
      exact hJ _ (hp.drew hd)
  · have hb : ¬ (i : Int) ≤ (m : Int) := of_decide_eq_false hb
    have hst : scanDown (fun x => ltInt d[a]! x) d i m = m := by
      cases m with
      | zero => rfl
      | succ n => unfold scanDown; rw [if_neg (by simp; intro; omega)]
    rw [hst] at he
    rw [he]
    exact hJ _ (hp.drew hd)
end

theorem scanUp_le' (p : Int → Bool) (d : Array Int) (j i : Nat) : i ≤ scanUp p d j i ∧ scanUp p d j i ≤ max i (j + 1) := by
  fun_induction scanUp p d j i with
  | case1 i h ih =>
    simp only [Bool.and_eq_true, decide_eq_true_eq] at h
    omega
  | case2 i h => omega
theorem scanDown_le' (p : Int → Bool) (d : Array Int) (i : Nat) : ∀ j, scanDown p d i j ≤ j
  | 0 => Nat.le_refl _
  | j + 1 => by
    unfold scanDown
    split
    · have := scanDown_le' p d i j; omega
    · omega
theorem partLoop_size (a i j : Nat) (d : Array Int) : (partLoop ltInt a i j d).2.size = d.size := by
  fun_induction partLoop ltInt a i j d with
  | case1 => rfl
  | case2 => rename_i ih; rw [ih, swp_size]
  | case3 => rfl

section
variable {w : World} {g c : Nat} {d : Array Int}

theorem s_partition (h : Row w g c d) {a b pivot : Nat} (ha : a + 1 < b) (hb : b ≤ d.size) (hp : pivot < d.size) (hsm : d.size ≤ 100000) :
    Calls P F.«slices_partitionOrdered_uint32» ⟨[.slice (some ⟨g, 0, none⟩) d.size c, .int .i64 (a : Nat), .int .i64 (b : Nat), .int .i64 (pivot : Nat)]⟩ w fun e w' =>
      e = .returned (.tuple ⟨[.int .i64 ((partition ltInt d a b pivot).1 : Nat), .bool (partition ltInt d a b pivot).2.1]⟩) ∧ SPost w g c (partition ltInt d a b pivot).2.2 w' ∧ (partition ltInt d a b pivot).2.2.size = d.size := by
  refine ok_slices_partitionOrdered_uint32 ?_
  unfold V_slices_partitionOrdered_uint32
  have e1 : IntKind.wrap .i64 ((a : Int) + 1) = ((a + 1 : Nat) : Int) := by rw [wrap64 (by omega) (by omega)]; omega
  have e2 : IntKind.wrap .i64 ((b : Int) - 1) = ((b - 1 : Nat) : Int) := by rw [wrap64 (by omega) (by omega)]; omega
  simp only [e1, e2]
  refine ⟨⟨by omega, by omega⟩, _, h.cell (i := pivot) hp, ⟨by omega, by omega⟩, _, h.cell (i := a) (by omega), ⟨by omega, by omega⟩, fun w1 hd1 => row_store (h.drew hd1) (by omega) fun w2 h2 k2 => ⟨⟨by omega, by omega⟩, row_store h2 (by simp; omega) fun w3 h3 k3 => ?_⟩⟩
  have p3 : SPost w g c (swp d a pivot) w3 := ⟨h3, ((Keep.drew _ hd1).trans k2 fun _ _ h => h).trans k3 fun _ _ h => h⟩
  have hpart : partition ltInt d a b pivot = (let i := scanUp (fun x => ltInt x (swp d a pivot)[a]!) (swp d a pivot) (b - 1) (a + 1); let j := scanDown (fun x => !ltInt x (swp d a pivot)[a]!) (swp d a pivot) i (b - 1);
    if i > j then (j, true, swp (swp d a pivot) j a) else
      let r := partLoop ltInt a (i + 1) (j - 1) (swp (swp d a pivot) i j)
      (r.1, false, swp r.2 r.1 a)) := rfl
  dsimp only at hpart
  have hsz1 : (swp d a pivot).size = d.size := swp_size _ _ _
  generalize swp d a pivot = d1 at p3 hpart hsz1
  clear h2 h3 k2 k3
  rw [← hsz1] at hb hsm hp ⊢
  obtain ⟨hu1, hu2⟩ := scanUp_le' (fun x => ltInt x d1[a]!) d1 (b - 1) (a + 1)
  refine ⟨fun t w' => t.1 = ((scanUp (fun x => ltInt x d1[a]!) d1 (b - 1) (a + 1) : Nat) : Int) ∧ SPost w g c d1 w', up_vc (a := a) (i := a + 1) (j := b - 1) p3 (by omega) (by omega) hsm (by omega) fun w' h => ⟨rfl, h⟩, ?_⟩
  rintro _ _ w4 ⟨rfl, p4⟩
  generalize scanUp (fun x => ltInt x d1[a]!) d1 (b - 1) (a + 1) = i at hu1 hu2 hpart
  have hdl := scanDown_le' (fun x => !ltInt x d1[a]!) d1 i (b - 1)
  refine ⟨fun t w' => t.1 = ((scanDown (fun x => !ltInt x d1[a]!) d1 i (b - 1) : Nat) : Int) ∧ SPost w g c d1 w', down_vc (a := a) (i := i) (j := b - 1) p4 (by omega) (by omega) hsm (by omega) fun w' h => ⟨rfl, h⟩, ?_⟩
  rintro _ _ w5 ⟨rfl, p5⟩
  generalize scanDown (fun x => !ltInt x d1[a]!) d1 i (b - 1) = j at hdl hpart
  refine bcase_mk (fun hij => ?_) (fun hij => ?_)
  · have hij : (i : Int) > (j : Int) := of_decide_eq_true hij
    rw [if_pos (by omega)] at hpart
    refine ⟨⟨by omega, by omega⟩, _, p5.1.cell (i := a) (by omega), ⟨by omega, by omega⟩, _, p5.1.cell (i := j) (by omega), ⟨by omega, by omega⟩, fun w6 hd6 => row_store (p5.1.drew hd6) (by omega) fun w7 h7 k7 => ⟨⟨by omega, by omega⟩, row_store h7 (by simp; omega) fun w8 h8 k8 => ?_⟩⟩
    rw [hpart]
    exact ⟨rfl, ⟨h8, ((p5.drew hd6).2.trans k7 fun _ _ h => h).trans k8 fun _ _ h => h⟩, swp_size _ _ _⟩
  · have hij : ¬ (i : Int) > (j : Int) := of_decide_eq_false hij
    rw [if_neg (by omega)] at hpart
    refine ⟨⟨by omega, by omega⟩, _, p5.1.cell (i := j) (by omega), ⟨by omega, by omega⟩, _, p5.1.cell (i := i) (by omega), ⟨by omega, by omega⟩, fun w6 hd6 => row_store (p5.1.drew hd6) (by omega) fun w7 h7 k7 => ⟨⟨by omega, by omega⟩, row_store h7 (by simp; omega) fun w8 h8 k8 => ?_⟩⟩
    have p8 : SPost w g c (swp d1 i j) w8 := ⟨h8, ((p5.drew hd6).2.trans k7 fun _ _ h => h).trans k8 fun _ _ h => h⟩
    have e3 : IntKind.wrap .i64 ((i : Int) + 1) = ((i + 1 : Nat) : Int) := by rw [wrap64 (by omega) (by omega)]; omega
    have e4 : IntKind.wrap .i64 ((j : Int) - 1) = ((j - 1 : Nat) : Int) := by rw [wrap64 (by omega) (by omega)]; omega
    simp only [e3, e4]
    refine ⟨fun t w' => ∃ (i2 j2 : Nat) (d2 : Array Int), t.1 = (i2 : Int) ∧ t.2.1 = (j2 : Int) ∧ 1 ≤ i2 ∧ i2 ≤ 100000 ∧ j2 < b ∧ d2.size = d1.size ∧ SPost w g c d2 w' ∧ partLoop ltInt a i2 j2 d2 = partLoop ltInt a (i + 1) (j - 1) (swp d1 i j), fun t _ => (t.2.1 + 1 - t.1).toNat,
      ⟨i + 1, j - 1, swp d1 i j, rfl, rfl, by omega, by omega, by omega, swp_size _ _ _, p8, rfl⟩, ?_⟩
    rintro _ _ _ w9 ⟨i2, j2, d2, rfl, rfl, hi2, hi2', hj2, hsz2, p9, he⟩
    have hst : partLoop ltInt a i2 j2 d2 = (let i3 := scanUp (fun x => ltInt x d2[a]!) d2 j2 i2; let j3 := scanDown (fun x => !ltInt x d2[a]!) d2 i3 j2;
        if i3 > j3 then (j3, d2) else if (j3 - 1) + 1 - (i3 + 1) < j2 + 1 - i2 then partLoop ltInt a (i3 + 1) (j3 - 1) (swp d2 i3 j3) else (j3, d2)) := by
      conv => lhs; unfold partLoop
      rfl
    dsimp only at hst
    obtain ⟨hv1, hv2⟩ := scanUp_le' (fun x => ltInt x d2[a]!) d2 j2 i2
    rw [← hsz2] at hb hsm hp ⊢
    refine ⟨fun t w' => t.1 = ((scanUp (fun x => ltInt x d2[a]!) d2 j2 i2 : Nat) : Int) ∧ SPost w g c d2 w', up_vc (a := a) (i := i2) (j := j2) p9 (by omega) (by omega) hsm (by omega) fun w' h => ⟨rfl, h⟩, ?_⟩
    rintro _ _ w10 ⟨rfl, p10⟩
    generalize scanUp (fun x => ltInt x d2[a]!) d2 j2 i2 = i3 at hv1 hv2 hst
    have hvl := scanDown_le' (fun x => !ltInt x d2[a]!) d2 i3 j2
    refine ⟨fun t w' => t.1 = ((scanDown (fun x => !ltInt x d2[a]!) d2 i3 j2 : Nat) : Int) ∧ SPost w g c d2 w', down_vc (a := a) (i := i3) (j := j2) p10 (by omega) (by omega) hsm (by omega) fun w' h => ⟨rfl, h⟩, ?_⟩
    rintro _ _ w11 ⟨rfl, p11⟩
    generalize scanDown (fun x => !ltInt x d2[a]!) d2 i3 j2 = j3 at hvl hst
    refine bcase_mk (fun hij => ?_) (fun hij => ?_)
    · have hij : (i3 : Int) > (j3 : Int) := of_decide_eq_true hij
      rw [if_pos (by omega)] at hst
      rw [← he, hst] at hpart
      refine ⟨⟨by omega, by omega⟩, _, p11.1.cell (i := a) (by omega), ⟨by omega, by omega⟩, _, p11.1.cell (i := j3) (by omega), ⟨by omega, by omega⟩, fun w6 hd6 => row_store (p11.1.drew hd6) (by omega) fun w7 h7 k7 => ⟨⟨by omega, by omega⟩, row_store h7 (by simp; omega) fun w8 h8 k8 => ?_⟩⟩
      rw [hpart]
      exact ⟨rfl, ⟨h8, ((p11.drew hd6).2.trans k7 fun _ _ h => h).trans k8 fun _ _ h => h⟩, by rw [swp_size]⟩
    · have hij : ¬ (i3 : Int) > (j3 : Int) := of_decide_eq_false hij
      rw [if_neg (by omega), if_pos (by omega)] at hst
      refine ⟨⟨by omega, by omega⟩, _, p11.1.cell (i := j3) (by omega), ⟨by omega, by omega⟩, _, p11.1.cell (i := i3) (by omega), ⟨by omega, by omega⟩, fun w6 hd6 => row_store (p11.1.drew hd6) (by omega) fun w7 h7 k7 => ⟨⟨by omega, by omega⟩, row_store h7 (by simp; omega) fun w8 h8 k8 => ?_⟩⟩
      rw [wrap64 (by omega) (by omega), wrap64 (by omega) (by omega)]
      exact ⟨⟨i3 + 1, j3 - 1, swp d2 i3 j3, by simp, by show (j3 : Int) - 1 = ((j3 - 1 : Nat) : Int); omega, by omega, by omega, by omega, by rw [swp_size], ⟨h8, ((p11.drew hd6).2.trans k7 fun _ _ h => h).trans k8 fun _ _ h => h⟩, by rw [← hst]; exact he⟩, by show (((j3 : Int) - 1) + 1 - ((i3 : Int) + 1)).toNat < ((j2 : Int) + 1 - (i2 : Int)).toNat; omega⟩
theorem partEqLoop_size (a i j : Nat) (d : Array Int) : (partEqLoop ltInt a i j d).2.size = d.size := by
  fun_induction partEqLoop ltInt a i j d with
  | case1 => rfl
  | case2 => rename_i ih; rw [ih, swp_size]
  | case3 => rfl

theorem s_partitionEqual (h : Row w g c d) {a b pivot : Nat} (ha : a + 1 < b) (hb : b ≤ d.size) (hp : pivot < d.size) (hsm : d.size ≤ 100000) :
    Calls P F.«slices_partitionEqualOrdered_uint32» ⟨[.slice (some ⟨g, 0, none⟩) d.size c, .int .i64 (a : Nat), .int .i64 (b : Nat), .int .i64 (pivot : Nat)]⟩ w fun e w' =>
      e = .returned (.int .i64 ((partitionEqual ltInt d a b pivot).1 : Nat)) ∧ SPost w g c (partitionEqual ltInt d a b pivot).2 w' ∧ (partitionEqual ltInt d a b pivot).2.size = d.size := by
  refine ok_slices_partitionEqualOrdered_uint32 ?_
  unfold V_slices_partitionEqualOrdered_uint32
  have e1 : IntKind.wrap .i64 ((a : Int) + 1) = ((a + 1 : Nat) : Int) := by rw [wrap64 (by omega) (by omega)]; omega
  have e2 : IntKind.wrap .i64 ((b : Int) - 1) = ((b - 1 : Nat) : Int) := by rw [wrap64 (by omega) (by omega)]; omega
  simp only [e1, e2]
  refine ⟨⟨by omega, by omega⟩, _, h.cell (i := pivot) hp, ⟨by omega, by omega⟩, _, h.cell (i := a) (by omega), ⟨by omega, by omega⟩, fun w1 hd1 => row_store (h.drew hd1) (by omega) fun w2 h2 k2 => ⟨⟨by omega, by omega⟩, row_store h2 (by simp; omega) fun w3 h3 k3 => ?_⟩⟩
  have p3 : SPost w g c (swp d a pivot) w3 := ⟨h3, ((Keep.drew _ hd1).trans k2 fun _ _ h => h).trans k3 fun _ _ h => h⟩
  have hpart : partitionEqual ltInt d a b pivot = partEqLoop ltInt a (a + 1) (b - 1) (swp d a pivot) := rfl
  have hsz1 : (swp d a pivot).size = d.size := swp_size _ _ _
  generalize swp d a pivot = d1 at p3 hpart hsz1
  rw [hpart]
  clear h2 h3 k2 k3 hpart
  rw [← hsz1] at hb hsm hp ⊢
  refine ⟨fun t w' => ∃ (i2 j2 : Nat) (d2 : Array Int), t.1 = (i2 : Int) ∧ t.2.1 = (j2 : Int) ∧ 1 ≤ i2 ∧ i2 ≤ 100000 ∧ j2 < b ∧ d2.size = d1.size ∧ SPost w g c d2 w' ∧ partEqLoop ltInt a i2 j2 d2 = partEqLoop ltInt a (a + 1) (b - 1) d1, fun t _ => (t.2.1 + 1 - t.1).toNat,
    ⟨a + 1, b - 1, d1, rfl, rfl, by omega, by omega, by omega, rfl, p3, rfl⟩, ?_⟩
  rintro _ _ _ w9 ⟨i2, j2, d2, rfl, rfl, hi2, hi2', hj2, hsz2, p9, he⟩
  have hst : partEqLoop ltInt a i2 j2 d2 = (let i3 := scanUp (fun x => !ltInt d2[a]! x) d2 j2 i2; let j3 := scanDown (fun x => ltInt d2[a]! x) d2 i3 j2;
      if i3 > j3 then (i3, d2) else if (j3 - 1) + 1 - (i3 + 1) < j2 + 1 - i2 then partEqLoop ltInt a (i3 + 1) (j3 - 1) (swp d2 i3 j3) else (i3, d2)) := by
    conv => lhs; unfold partEqLoop
    rfl
  dsimp only at hst
  obtain ⟨hv1, hv2⟩ := scanUp_le' (fun x => !ltInt d2[a]! x) d2 j2 i2
  rw [← hsz2] at hb hsm hp ⊢
  refine ⟨fun t w' => t.1 = ((scanUp (fun x => !ltInt d2[a]! x) d2 j2 i2 : Nat) : Int) ∧ SPost w g c d2 w', upE_vc (a := a) (i := i2) (j := j2) p9 (by omega) (by omega) hsm (by omega) fun w' h => ⟨rfl, h⟩, ?_⟩
  rintro _ _ w10 ⟨rfl, p10⟩
  generalize scanUp (fun x => !ltInt d2[a]! x) d2 j2 i2 = i3 at hv1 hv2 hst
  have hvl := scanDown_le' (fun x => ltInt d2[a]! x) d2 i3 j2
  refine ⟨fun t w' => t.1 = ((scanDown (fun x => ltInt d2[a]! x) d2 i3 j2 : Nat) : Int) ∧ SPost w g c d2 w', downE_vc (a := a) (i := i3) (j := j2) p10 (by omega) (by omega) hsm (by omega) fun w' h => ⟨rfl, h⟩, ?_⟩
  rintro _ _ w11 ⟨rfl, p11⟩
  generalize scanDown (fun x => ltInt d2[a]! x) d2 i3 j2 = j3 at hvl hst
  refine bcase_mk (fun hij => ?_) (fun hij => ?_)
  · have hij : (i3 : Int) > (j3 : Int) := of_decide_eq_true hij
    rw [if_pos (by omega)] at hst
    rw [← he, hst]
    exact ⟨rfl, p11, rfl⟩
  · have hij : ¬ (i3 : Int) > (j3 : Int) := of_decide_eq_false hij
    rw [if_neg (by omega), if_pos (by omega)] at hst
    refine ⟨⟨by omega, by omega⟩, _, p11.1.cell (i := j3) (by omega), ⟨by omega, by omega⟩, _, p11.1.cell (i := i3) (by omega), ⟨by omega, by omega⟩, fun w6 hd6 => row_store (p11.1.drew hd6) (by omega) fun w7 h7 k7 => ⟨⟨by omega, by omega⟩, row_store h7 (by simp; omega) fun w8 h8 k8 => ?_⟩⟩
    rw [wrap64 (by omega) (by omega), wrap64 (by omega) (by omega)]
    exact ⟨⟨i3 + 1, j3 - 1, swp d2 i3 j3, by simp, by show (j3 : Int) - 1 = ((j3 - 1 : Nat) : Int); omega, by omega, by omega, by omega, by rw [swp_size], ⟨h8, ((p11.drew hd6).2.trans k7 fun _ _ h => h).trans k8 fun _ _ h => h⟩, by rw [← hst]; exact he⟩, by show (((j3 : Int) - 1) + 1 - ((i3 : Int) + 1)).toNat < ((j2 : Int) + 1 - (i2 : Int)).toNat; omega⟩
end

end Go.Proofs.YtgepmlgkeljelaaGreat.Vc

/- slices.Sort at []uint32: the pivot. -/
namespace Go.Proofs.YtgepmlgkeljelaaGreat.Vc
open Go Go.Proofs Go.Sort

/-- A counter's block. -/
def Sw (w : World) (sb : Nat) : Prop := ∃ n : Int, w.heap[sb]? = some (.cells ⟨[.int .i64 n]⟩ T.«i64'»)

section
variable {w : World} {g c sb : Nat} {d : Array Int}

theorem Row.ne (h : Row w g c d) (hs : Sw w sb) : ¬ g = sb := fun e => by
  obtain ⟨cur, hc⟩ := Sl.type h (Blk.mk g 0)
  obtain ⟨n, hn⟩ := hs
  rw [e, hn] at hc
  cases hc

/-- What the choice of a pivot does to memory. -/
def CPost (w : World) (g c sb : Nat) (d : Array Int) (w' : World) : Prop := Row w' g c d ∧ Sw w' sb ∧ Keep (fun t => t = sb) w w'
theorem CPost.trans {u v : World} (h : CPost w g c sb d u) (k : CPost u g c sb d v) : CPost w g c sb d v := ⟨k.1, k.2.1, h.2.2.trans k.2.2 fun _ _ h => h⟩

theorem s_order2 (h : Row w g c d) (hs : Sw w sb) {a b : Nat} (ha : a < d.size) (hb : b < d.size) :
    Calls P F.«slices_order2Ordered_uint32» ⟨[.slice (some ⟨g, 0, none⟩) d.size c, .int .i64 (a : Nat), .int .i64 (b : Nat), .pointer (some ⟨sb, 0, none⟩)]⟩ w fun e w' =>
      (∃ x y : Nat, e = .returned (.tuple ⟨[.int .i64 (x : Nat), .int .i64 (y : Nat)]⟩) ∧ ((x = a ∧ y = b) ∨ (x = b ∧ y = a))) ∧ CPost w g c sb d w' := by
  refine ok_slices_order2Ordered_uint32 ⟨⟨by omega, by omega⟩, _, h.cell (i := b) hb, ⟨by omega, by omega⟩, _, h.cell (i := a) ha, fun w1 hd => (s_Less w1 _ _).mono ?_⟩
  rintro _ _ ⟨rfl, rfl⟩
  have h1 := h.drew hd
  obtain ⟨n, hn⟩ := hs
  have hn1 := hd.at_ hn
  refine ⟨_, rfl, bcase_mk (fun _ => ⟨n, cell_at0 hn1 rfl, store_step hn1 (by simp) fun w2 s2 => ⟨⟨b, a, rfl, .inr ⟨rfl, rfl⟩⟩, Sl.keep h1 s2.keep fun t ht e => ?_, ⟨_, s2.at_⟩, (Keep.drew _ hd).trans s2.keep fun _ _ h => h⟩⟩) (fun _ => ⟨⟨a, b, rfl, .inl ⟨rfl, rfl⟩⟩, h1, ⟨n, hn1⟩, Keep.drew _ hd⟩)⟩
  have e : t = sb := e
  exact h1.ne ⟨n, hn1⟩ (ht.eq ▸ e)

theorem s_median (h : Row w g c d) (hs : Sw w sb) {a b e : Nat} (ha : a < d.size) (hb : b < d.size) (he : e < d.size) :
    Calls P F.«slices_medianOrdered_uint32» ⟨[.slice (some ⟨g, 0, none⟩) d.size c, .int .i64 (a : Nat), .int .i64 (b : Nat), .int .i64 (e : Nat), .pointer (some ⟨sb, 0, none⟩)]⟩ w fun e' w' =>
      (∃ x : Nat, e' = .returned (.int .i64 (x : Nat)) ∧ (x = a ∨ x = b ∨ x = e)) ∧ CPost w g c sb d w' := by
  refine ok_slices_medianOrdered_uint32 ((s_order2 h hs ha hb).mono ?_)
  rintro _ w1 ⟨⟨x, y, rfl, hxy⟩, p1⟩
  refine ⟨_, _, rfl, (s_order2 p1.1 p1.2.1 (a := y) (b := e) (by omega) he).mono ?_⟩
  rintro _ w2 ⟨⟨x2, y2, rfl, hxy2⟩, p2⟩
  refine ⟨_, _, rfl, (s_order2 p2.1 p2.2.1 (a := x) (b := x2) (by omega) (by omega)).mono ?_⟩
  rintro _ w3 ⟨⟨x3, y3, rfl, hxy3⟩, p3⟩
  exact ⟨_, _, rfl, ⟨y3, rfl, by omega⟩, (p1.trans p2).trans p3⟩

theorem s_medianAdjacent (h : Row w g c d) (hs : Sw w sb) {a : Nat} (ha : 1 ≤ a) (hb : a + 1 < d.size) (hsm : d.size ≤ 100000) :
    Calls P F.«slices_medianAdjacentOrdered_uint32» ⟨[.slice (some ⟨g, 0, none⟩) d.size c, .int .i64 (a : Nat), .pointer (some ⟨sb, 0, none⟩)]⟩ w fun e' w' =>
      (∃ x : Nat, e' = .returned (.int .i64 (x : Nat)) ∧ a - 1 ≤ x ∧ x ≤ a + 1) ∧ CPost w g c sb d w' := by
  refine ok_slices_medianAdjacentOrdered_uint32 ?_
  unfold V_slices_medianAdjacentOrdered_uint32
  have e1 : IntKind.wrap .i64 ((a : Int) - 1) = ((a - 1 : Nat) : Int) := by rw [wrap64 (by omega) (by omega)]; omega
  have e2 : IntKind.wrap .i64 ((a : Int) + 1) = ((a + 1 : Nat) : Int) := by rw [wrap64 (by omega) (by omega)]; omega
  rw [e1, e2]
  refine (s_median h hs (a := a - 1) (b := a) (e := a + 1) (by omega) (by omega) hb).mono ?_
  rintro _ w1 ⟨⟨x, rfl, hx⟩, p1⟩
  exact ⟨_, rfl, ⟨x, rfl, by omega, by omega⟩, p1⟩

/-- A pivot within the part; a hint, whichever. -/
theorem s_choosePivot (h : Row w g c d) {a b : Nat} (hab : a < b) (hb : b ≤ d.size) (hsm : d.size ≤ 100000) :
    Calls P F.«slices_choosePivotOrdered_uint32» ⟨[.slice (some ⟨g, 0, none⟩) d.size c, .int .i64 (a : Nat), .int .i64 (b : Nat)]⟩ w fun e' w' =>
      (∃ (x : Nat) (hint : Int), e' = .returned (.tuple ⟨[.int .i64 (x : Nat), .int .i64 hint]⟩) ∧ a ≤ x ∧ x < b) ∧ Row w' g c d ∧ Keep NoB w w' := by
  refine ok_slices_choosePivotOrdered_uint32 ?_
  unfold V_slices_choosePivotOrdered_uint32
  have e1 : IntKind.wrap .i64 ((b : Int) - (a : Int)) = ((b - a : Nat) : Int) := by rw [wrap64 (by omega) (by omega)]; omega
  have e2 : IntKind.wrap .i64 (Int.tdiv ((b - a : Nat) : Int) 4) = (((b - a) / 4 : Nat) : Int) := wrap64 (n := (((b - a) / 4 : Nat) : Int)) (by omega) (by omega)
  have m1 : ∀ k : Nat, k ≤ 3 → IntKind.wrap .i64 ((((b - a) / 4 : Nat) : Int) * (k : Int)) = (((b - a) / 4 * k : Nat) : Int) := by
    intro k hk
    have : k = 0 ∨ k = 1 ∨ k = 2 ∨ k = 3 := by omega
    rcases this with rfl | rfl | rfl | rfl <;> (rw [wrap64 (by omega) (by omega)]; omega)
  have m2 : ∀ k : Nat, k ≤ 3 → IntKind.wrap .i64 ((a : Int) + (((b - a) / 4 * k : Nat) : Int)) = ((a + (b - a) / 4 * k : Nat) : Int) := by
    intro k hk
    have : k = 0 ∨ k = 1 ∨ k = 2 ∨ k = 3 := by omega
    rcases this with rfl | rfl | rfl | rfl <;> (rw [wrap64 (by omega) (by omega)]; omega)
  have q1 : IntKind.wrap .i64 ((((b - a) / 4 : Nat) : Int) * 1) = (((b - a) / 4 * 1 : Nat) : Int) := m1 1 (by omega)
  have q2 : IntKind.wrap .i64 ((((b - a) / 4 : Nat) : Int) * 2) = (((b - a) / 4 * 2 : Nat) : Int) := m1 2 (by omega)
  have q3 : IntKind.wrap .i64 ((((b - a) / 4 : Nat) : Int) * 3) = (((b - a) / 4 * 3 : Nat) : Int) := m1 3 (by omega)
  have r1 := m2 1 (by omega)
  have r2 := m2 2 (by omega)
  have r3 := m2 3 (by omega)
  simp only [e1, e2, q1, q2, q3, r1, r2, r3]
  refine alloc_step fun u hu => ⟨by decide, by decide, by decide, ?_⟩
  have h0 : Row u g c d := Sl.keep h hu.keep fun _ _ h => h
  have hs0 : Sw u w.heap.size := ⟨_, hu.at_⟩
  refine ⟨fun t w' => ∃ x : Nat, t.1 = (x : Int) ∧ a ≤ x ∧ x < b ∧ CPost u g c w.heap.size d w', bcase_mk (fun h8 => bcase_mk (fun h50 => ?_) (fun h50 => ?_)) (fun h8 => ⟨_, rfl, by omega, by omega, h0, hs0, Keep.refl _ _⟩), ?_⟩
  · have h50 : ((b - a : Nat) : Int) ≥ 50 := of_decide_eq_true h50
    refine (s_medianAdjacent h0 hs0 (a := a + (b - a) / 4 * 1) (by omega) (by omega) hsm).mono ?_
    rintro _ w1 ⟨⟨x1, rfl, hx1⟩, p1⟩
    refine ⟨_, rfl, (s_medianAdjacent p1.1 p1.2.1 (a := a + (b - a) / 4 * 2) (by omega) (by omega) hsm).mono ?_⟩
    rintro _ w2 ⟨⟨x2, rfl, hx2⟩, p2⟩
    refine ⟨_, rfl, (s_medianAdjacent p2.1 p2.2.1 (a := a + (b - a) / 4 * 3) (by omega) (by omega) hsm).mono ?_⟩
    rintro _ w3 ⟨⟨x3, rfl, hx3⟩, p3⟩
    refine ⟨_, rfl, (s_median p3.1 p3.2.1 (a := x1) (b := x2) (e := x3) (by omega) (by omega) (by omega)).mono ?_⟩
    rintro _ w4 ⟨⟨x4, rfl, hx4⟩, p4⟩
    exact ⟨_, rfl, x4, rfl, by omega, by omega, ((p1.trans p2).trans p3).trans p4⟩
  · have h8 : ((b - a : Nat) : Int) ≥ 8 := of_decide_eq_true h8
    refine (s_median h0 hs0 (a := a + (b - a) / 4 * 1) (b := a + (b - a) / 4 * 2) (e := a + (b - a) / 4 * 3) (by omega) (by omega) (by omega)).mono ?_
    rintro _ w4 ⟨⟨x4, rfl, hx4⟩, p4⟩
    exact ⟨_, rfl, x4, rfl, by omega, by omega, p4⟩
  · rintro _ _ w1 ⟨x, rfl, hx1, hx2, hr, ⟨n, hn⟩, hk⟩
    have hk' : Keep NoB w w1 := hu.keep.trans hk fun t ht e => by have : t = w.heap.size := e; omega
    exact ⟨n, cell_at0 hn rfl, bcase_mk (fun _ => ⟨⟨x, _, rfl, hx1, hx2⟩, hr, hk'⟩) (fun _ => bcase_mk (fun _ => ⟨⟨x, _, rfl, hx1, hx2⟩, hr, hk'⟩) (fun _ => ⟨⟨x, _, rfl, hx1, hx2⟩, hr, hk'⟩))⟩
/-- The random number's block. -/
def Sx (w : World) (sb : Nat) : Prop := ∃ n : Int, w.heap[sb]? = some (.cells ⟨[.int .u64 n]⟩ T.«slices_xorshift»)

theorem s_xor (hs : Sx w sb) : Calls P F.«slices_xorshift_Next» ⟨[.pointer (some ⟨sb, 0, none⟩)]⟩ w fun e w' => (∃ n : Int, e = .returned (.int .u64 n)) ∧ Sx w' sb ∧ Keep (fun t => t = sb) w w' := by
  obtain ⟨n, hn⟩ := hs
  refine ok_slices_xorshift_Next ⟨n, cell_at0 hn rfl, n, cell_at0 hn rfl, by decide, fun w1 d1 => store_step (d1.at_ hn) (by simp) fun w2 s2 => ⟨_, cell_at0 s2.at_ rfl, _, cell_at0 s2.at_ rfl, by decide, fun w3 d3 => store_step (d3.at_ s2.at_) (by simp) fun w4 s4 => ⟨_, cell_at0 s4.at_ rfl, _, cell_at0 s4.at_ rfl, by decide, fun w5 d5 => store_step (d5.at_ s4.at_) (by simp) fun w6 s6 => ⟨_, cell_at0 s6.at_ rfl, ⟨_, rfl⟩, ⟨_, s6.at_⟩, ?_⟩⟩⟩⟩
  exact (((((Keep.drew _ d1).trans s2.keep fun _ _ h => h).trans (Keep.drew _ d3) fun _ _ h => h).trans s4.keep fun _ _ h => h).trans (Keep.drew _ d5) fun _ _ h => h).trans s6.keep fun _ _ h => h
end

end Go.Proofs.YtgepmlgkeljelaaGreat.Vc

/- slices.Sort at []uint32: the length in bits. -/
set_option maxRecDepth 100000
namespace Go.Proofs.YtgepmlgkeljelaaGreat.Vc
open Go Go.Proofs Go.Sort

abbrev len8T : ByteArray := bs [0, 1, 2, 2, 3, 3, 3, 3, 4, 4, 4, 4, 4, 4, 4, 4, 5, 5, 5, 5, 5, 5, 5, 5, 5, 5, 5, 5, 5, 5, 5, 5, 6, 6, 6, 6, 6, 6, 6, 6, 6, 6, 6, 6, 6, 6, 6, 6, 6, 6, 6, 6, 6, 6, 6, 6, 6, 6, 6, 6, 6, 6, 6, 6, 7, 7, 7, 7, 7, 7, 7, 7, 7, 7, 7, 7, 7, 7, 7, 7, 7, 7, 7, 7, 7, 7, 7, 7, 7, 7, 7, 7, 7, 7, 7, 7, 7, 7, 7, 7, 7, 7, 7, 7, 7, 7, 7, 7, 7, 7, 7, 7, 7, 7, 7, 7, 7, 7, 7, 7, 7, 7, 7, 7, 7, 7, 7, 7, 8, 8, 8, 8, 8, 8, 8, 8, 8, 8, 8, 8, 8, 8, 8, 8, 8, 8, 8, 8, 8, 8, 8, 8, 8, 8, 8, 8, 8, 8, 8, 8, 8, 8, 8, 8, 8, 8, 8, 8, 8, 8, 8, 8, 8, 8, 8, 8, 8, 8, 8, 8, 8, 8, 8, 8, 8, 8, 8, 8, 8, 8, 8, 8, 8, 8, 8, 8, 8, 8, 8, 8, 8, 8, 8, 8, 8, 8, 8, 8, 8, 8, 8, 8, 8, 8, 8, 8, 8, 8, 8, 8, 8, 8, 8, 8, 8, 8, 8, 8, 8, 8, 8, 8, 8, 8, 8, 8, 8, 8, 8, 8, 8, 8, 8, 8, 8, 8, 8, 8, 8, 8, 8, 8, 8, 8, 8, 8]
def len8Ok (i : Nat) : Bool := match i with | 256 => true | i => (let n := (len8T.data.toList.getD i 0).toNat; Nat.ble n 8 && (Nat.beq i 0 || Nat.ble (2 ^ n) (2 * i)))
theorem len8All : ((List.range 256).all len8Ok) = true := by kernel_rfl
theorem len8 {i : Nat} (hi : i < 256) : ∃ n : Nat, bt len8T (i : Int) = (n : Int) ∧ n ≤ 8 ∧ (1 ≤ i → 2 ^ n ≤ 2 * i) := by
  have h := List.all_eq_true.1 len8All i (List.mem_range.2 hi)
  refine ⟨(len8T.data.toList.getD i 0).toNat, rfl, ?_⟩
  unfold len8Ok at h
  split at h
  · omega
  · simp only [Bool.and_eq_true, Bool.or_eq_true, Nat.ble_eq] at h
    refine ⟨h.1, fun h1 => ?_⟩
    rcases h.2 with h2 | h2
    · have := Nat.eq_of_beq_eq_true h2; omega
    · exact h2

theorem s_Len64 (w : World) {x : Nat} (hx : x ≤ 100000) : Calls P F.«math_bits_Len64» ⟨[.int .u64 (x : Nat)]⟩ w fun e w' => (∃ n : Nat, e = .returned (.int .i64 (n : Nat)) ∧ n ≤ 40 ∧ (1 ≤ x → 2 ^ n ≤ 2 * x)) ∧ w = w' := by
  refine ok_math_bits_Len64 ?_
  unfold V_math_bits_Len64
  refine ⟨fun t w' => w = w' ∧ t.1 = (x : Int) ∧ t.2.1 = 0, bcase_mk (fun hb => by have := of_decide_eq_true hb; omega) (fun _ => ⟨rfl, rfl, rfl⟩), ?_⟩
  rintro _ _ _ _ ⟨rfl, rfl, rfl⟩
  refine ⟨fun t w' => w = w' ∧ ∃ y k : Nat, t.1 = (y : Int) ∧ t.2.1 = (k : Int) ∧ y < 65536 ∧ k ≤ 16 ∧ y * 2 ^ k ≤ x ∧ (1 ≤ x → 1 ≤ y), bcase_mk (fun hb => ⟨by decide, rfl, x / 65536, 16, ?_, rfl, by omega, by omega, by omega, fun _ => ?_⟩) (fun hb => ⟨rfl, x, 0, rfl, rfl, ?_, by omega, by omega, fun h => h⟩), ?_⟩
  · show Int.fdiv (x : Int) (2 ^ (min (16 : Int).toNat (IntKind.bits .u64))) = ((x / 65536 : Nat) : Int)
    rw [Int.fdiv_eq_ediv_of_nonneg _ (by decide)]
    rfl
  · have := of_decide_eq_true hb; omega
  · have := of_decide_eq_false hb; omega
  rintro _ _ _ _ ⟨rfl, y, k, rfl, rfl, hy, hk, hyx, h1⟩
  have hf : Int.fdiv (y : Int) (2 ^ (min (8 : Int).toNat (IntKind.bits .u64))) = ((y / 256 : Nat) : Int) := by
    rw [Int.fdiv_eq_ediv_of_nonneg _ (by decide)]
    rfl
  simp only [hf]
  refine bcase_mk (fun hb => ?_) (fun hb => ?_)
  · have hb : (y : Int) ≥ 256 := of_decide_eq_true hb
    obtain ⟨n, hn1, hn2, hn3⟩ := len8 (i := y / 256) (by omega)
    have hz : 1 ≤ y / 256 := by omega
    rw [wrapU8 (n := ((y / 256 : Nat) : Int)) (by omega) (by omega)]
    refine ⟨by decide, ⟨by omega, ?_⟩, ?_⟩
    · show ((y / 256 : Nat) : Int) < (256 : Int)
      omega
    · refine ⟨⟨k + 8 + n, ?_, by omega, fun hx1 => ?_⟩, by first | exact rfl | exact trivial⟩
      · have e : IntKind.wrap .i64 (IntKind.wrap .i64 ((k : Int) + 8) + IntKind.wrap .i64 (bt len8T ((y / 256 : Nat) : Int))) = ((k + 8 + n : Nat) : Int) := by
          rw [hn1, wrap64 (n := (k : Int) + 8) (by omega) (by omega), wrap64 (n := (n : Int)) (by omega) (by omega), wrap64 (by omega) (by omega)]; omega
        exact congrArg (fun z => Ending.returned (.int .i64 z)) e
      · have h2 := hn3 hz
        have h3 : 2 ^ (k + 8 + n) = 2 ^ k * 256 * 2 ^ n := by rw [Nat.pow_add, Nat.pow_add]
        have h4 : 2 ^ k * 256 * 2 ^ n ≤ 2 ^ k * 256 * (2 * (y / 256)) := Nat.mul_le_mul_left _ h2
        have h5 : 2 ^ k * 256 * (2 * (y / 256)) = 2 * (256 * (y / 256) * 2 ^ k) := by
          rw [Nat.mul_comm (2 ^ k) 256, Nat.mul_assoc, Nat.mul_left_comm (2 ^ k), Nat.mul_left_comm 256, Nat.mul_comm (2 ^ k), Nat.mul_assoc]
        have h6 : 256 * (y / 256) * 2 ^ k ≤ y * 2 ^ k := Nat.mul_le_mul_right _ (Nat.mul_div_le y 256)
        omega
  · have hb : ¬ (y : Int) ≥ 256 := of_decide_eq_false hb
    obtain ⟨n, hn1, hn2, hn3⟩ := len8 (i := y) (by omega)
    rw [wrapU8 (n := (y : Int)) (by omega) (by omega)]
    refine ⟨⟨by omega, ?_⟩, ?_⟩
    · show (y : Int) < (256 : Int)
      omega
    · refine ⟨⟨k + n, ?_, by omega, fun hx1 => ?_⟩, by first | exact rfl | exact trivial⟩
      · have e : IntKind.wrap .i64 ((k : Int) + IntKind.wrap .i64 (bt len8T (y : Int))) = ((k + n : Nat) : Int) := by
          rw [hn1, wrap64 (n := (n : Int)) (by omega) (by omega), wrap64 (by omega) (by omega)]; omega
        exact congrArg (fun z => Ending.returned (.int .i64 z)) e
      · have h2 := hn3 (h1 hx1)
        have h3 : 2 ^ (k + n) = 2 ^ k * 2 ^ n := Nat.pow_add ..
        have h4 : 2 ^ k * 2 ^ n ≤ 2 ^ k * (2 * y) := Nat.mul_le_mul_left _ h2
        have h5 : 2 ^ k * (2 * y) = 2 * (y * 2 ^ k) := by rw [Nat.mul_left_comm, Nat.mul_comm (2 ^ k)]
        omega

theorem s_Len (w : World) {x : Nat} (hx : x ≤ 100000) : Calls P F.«math_bits_Len» ⟨[.int .u64 (x : Nat)]⟩ w fun e w' => (∃ n : Nat, e = .returned (.int .i64 (n : Nat)) ∧ n ≤ 40 ∧ (1 ≤ x → 2 ^ n ≤ 2 * x)) ∧ w = w' := by
  refine ok_math_bits_Len ((s_Len64 w hx).mono ?_)
  rintro _ _ ⟨⟨n, rfl, h⟩, rfl⟩
  exact ⟨_, rfl, ⟨n, rfl, h⟩, rfl⟩

theorem s_nextPow (w : World) {x : Nat} (hx : x ≤ 100000) (h1 : 1 ≤ x) : Calls P F.«slices_nextPowerOfTwo» ⟨[.int .i64 (x : Nat)]⟩ w fun e w' => (∃ m : Nat, e = .returned (.int .u64 (m : Nat)) ∧ 1 ≤ m ∧ m ≤ 2 * x) ∧ w = w' := by
  refine ok_slices_nextPowerOfTwo ?_
  unfold V_slices_nextPowerOfTwo
  rw [wrapU64 (n := (x : Int)) (by omega) (by omega)]
  refine (s_Len w hx).mono ?_
  rintro _ _ ⟨⟨n, rfl, hn, h2⟩, rfl⟩
  have h3 := h2 h1
  refine ⟨_, rfl, by omega, ⟨2 ^ n, ?_, Nat.one_le_two_pow, h3⟩, rfl⟩
  have hb : min ((n : Nat) : Int).toNat (IntKind.bits .u64) = n := by
    show min n 64 = n
    omega
  rw [hb]
  have e : (1 : Int) * 2 ^ n = ((2 ^ n : Nat) : Int) := by rw [Int.one_mul]; exact (Int.natCast_pow 2 n).symm
  have hlt : (2 ^ n : Nat) < 18446744073709551616 := by omega
  rw [e, wrapU64 (n := ((2 ^ n : Nat) : Int)) (Int.natCast_nonneg _) (Int.ofNat_lt.2 hlt)]

theorem and_le (x : Int) {y : Nat} (hy : y < 1000000) : ∃ z : Nat, bits .and .u64 x (y : Int) = (z : Int) ∧ z ≤ y := by
  have h1 : (BitVec.ofInt 64 (y : Int)).toNat = y := by
    rw [BitVec.toNat_ofInt]
    have : ((y : Int) % ((2 ^ 64 : Nat) : Int)).toNat = y := by
      rw [Int.emod_eq_of_lt (by omega) (by simp; omega)]; rfl
    exact this
  have h2 : (BitVec.ofInt 64 x &&& BitVec.ofInt 64 (y : Int)).toNat ≤ y := by
    rw [BitVec.toNat_and, h1]
    exact Nat.and_le_right
  refine ⟨(BitVec.ofInt 64 x &&& BitVec.ofInt 64 (y : Int)).toNat, ?_, h2⟩
  exact wrapU64 (n := (((BitVec.ofInt 64 x &&& BitVec.ofInt 64 (y : Int)).toNat : Nat) : Int)) (by omega) (by omega)

end Go.Proofs.YtgepmlgkeljelaaGreat.Vc

/- slices.Sort at []uint32: breakPatterns. -/
namespace Go.Proofs.YtgepmlgkeljelaaGreat.Vc
open Go Go.Proofs Go.Sort

section
variable {w : World} {g c : Nat} {d : Array Int}

theorem set1New {w u v : World} {o o' : Obj} (h : New w o u) (k : Set1 u w.heap.size o' v) : New w o' v :=
  ⟨h.keep.trans k.keep fun t ht e => by have : t = w.heap.size := e; omega, by rw [k.size, h.size], k.at_⟩

theorem s_breakPatterns (h : Row w g c d) {a b : Nat} (hab : a ≤ b) (hb : b ≤ d.size) (hsm : d.size ≤ 100000) :
    Calls P F.«slices_breakPatternsOrdered_uint32» ⟨[.slice (some ⟨g, 0, none⟩) d.size c, .int .i64 (a : Nat), .int .i64 (b : Nat)]⟩ w fun e w' => e = .returned (.tuple ⟨[]⟩) ∧ ∃ d', PermIn a b d d' ∧ SPost w g c d' w' := by
  refine ok_slices_breakPatternsOrdered_uint32 ?_
  unfold V_slices_breakPatternsOrdered_uint32
  have e1 : IntKind.wrap .i64 ((b : Int) - (a : Int)) = ((b - a : Nat) : Int) := by rw [wrap64 (by omega) (by omega)]; omega
  have e2 : IntKind.wrap .i64 (Int.tdiv ((b - a : Nat) : Int) 4) = (((b - a) / 4 : Nat) : Int) := wrap64 (n := (((b - a) / 4 : Nat) : Int)) (by omega) (by omega)
  have e3 : IntKind.wrap .i64 ((((b - a) / 4 : Nat) : Int) * 2) = (((b - a) / 4 * 2 : Nat) : Int) := by rw [wrap64 (by omega) (by omega)]; omega
  have e4 : IntKind.wrap .i64 ((a : Int) + (((b - a) / 4 * 2 : Nat) : Int)) = ((a + (b - a) / 4 * 2 : Nat) : Int) := by rw [wrap64 (by omega) (by omega)]; omega
  have e5 : IntKind.wrap .u64 ((b - a : Nat) : Int) = ((b - a : Nat) : Int) := wrapU64 (by omega) (by omega)
  simp only [e1, e2, e3, e4, e5]
  refine bcase_mk (fun h8 => ?_) (fun h8 => ⟨by first | exact rfl | exact trivial, d, permIn_refl d a b, h, Keep.refl _ _⟩)
  have h8 : ((b - a : Nat) : Int) ≥ 8 := of_decide_eq_true h8
  refine alloc_step fun u0 n0 => store_step n0.at_ (by simp) fun u1 s1 => ?_
  have n1 := set1New n0 s1
  refine (s_nextPow u1 (x := b - a) (by omega) (by omega)).mono ?_
  rintro _ _ ⟨⟨m, rfl, hm1, hm2⟩, rfl⟩
  have e6 : IntKind.wrap .i64 (((a + (b - a) / 4 * 2 : Nat) : Int) - 1) = ((a + (b - a) / 4 * 2 - 1 : Nat) : Int) := by rw [wrap64 (by omega) (by omega)]; omega
  have e7 : IntKind.wrap .i64 (((a + (b - a) / 4 * 2 : Nat) : Int) + 1) = ((a + (b - a) / 4 * 2 + 1 : Nat) : Int) := by rw [wrap64 (by omega) (by omega)]; omega
  have e8 : IntKind.wrap .u64 ((m : Int) - 1) = ((m - 1 : Nat) : Int) := by rw [wrapU64 (by omega) (by omega)]; omega
  simp only [e6, e7, e8]
  have hg : ¬ g = w.heap.size := fun e => by have := Sl.lt h (Blk.mk g 0); omega
  have r1 : Row u1 g c d := Sl.keep h n1.keep fun _ _ h => h
  refine ⟨_, rfl, by decide, fun t w' => ∃ (i : Nat) (d' : Array Int), t.1 = (i : Int) ∧ a ≤ i ∧ PermIn a b d d' ∧ Row w' g c d' ∧ Sx w' w.heap.size ∧ Keep (fun b => b = g) w w', fun t _ => ((a + (b - a) / 4 * 2 + 2 : Int) - t.1).toNat,
    ⟨_, d, rfl, by omega, permIn_refl d a b, r1, ⟨_, n1.at_⟩, n1.keep.mono fun _ _ h => h.elim⟩, ?_⟩
  rintro _ _ w2 ⟨i, d', rfl, hi, hp, hr, hx, hk⟩
  have hsz := hp.1
  refine ⟨by decide, bcase_mk (fun hle => (s_xor hx).mono ?_) (fun _ => ⟨by first | exact rfl | exact trivial, d', hp, hr, hk⟩)⟩
  have hle : (i : Int) ≤ ((a + (b - a) / 4 * 2 + 1 : Nat) : Int) := of_decide_eq_true hle
  rintro _ w3 ⟨⟨n, rfl⟩, hx3, k3⟩
  have hr3 : Row w3 g c d' := Sl.keep hr k3 fun t ht e => hg (ht.eq ▸ (show t = w.heap.size from e))
  obtain ⟨z, hz, hzm⟩ := and_le n (y := m - 1) (by omega)
  have e9 : IntKind.wrap .i64 (bits .and .u64 n ((m - 1 : Nat) : Int)) = (z : Int) := by rw [hz, wrap64 (by omega) (by omega)]
  have hk3 : Keep (fun b => b = g) w w3 := hk.trans k3 fun t ht e => by have : t = w.heap.size := e; omega
  refine ⟨_, rfl, ?_⟩
  simp only [e8, e9]
  refine ⟨fun t w' => w3 = w' ∧ ∃ o : Nat, t.1 = (o : Int) ∧ o < b - a, bcase_mk (fun hb2 => ⟨rfl, z - (b - a), ?_, by omega⟩) (fun hb2 => ⟨rfl, z, rfl, by have := of_decide_eq_false hb2; omega⟩), ?_⟩
  · have hb2 : (z : Int) ≥ ((b - a : Nat) : Int) := of_decide_eq_true hb2
    show IntKind.wrap .i64 ((z : Int) - ((b - a : Nat) : Int)) = _
    rw [wrap64 (by omega) (by omega)]; omega
  rintro _ _ _ ⟨rfl, o, rfl, ho⟩
  have e10 : IntKind.wrap .i64 ((a : Int) + (o : Int)) = ((a + o : Nat) : Int) := by rw [wrap64 (by omega) (by omega)]; omega
  simp only [e10]
  refine ⟨⟨by omega, by omega⟩, ?_⟩
  rw [← hsz] at hb hsm ⊢
  refine ⟨_, hr3.cell (i := a + o) (by omega), ⟨by omega, by omega⟩, _, hr3.cell (i := i) (by omega), ⟨by omega, by omega⟩, fun w4 hd4 => row_store (hr3.drew hd4) (by omega) fun w5 h5 k5 => ⟨⟨by omega, by omega⟩, row_store h5 (by simp; omega) fun w6 h6 k6 => ?_⟩⟩
  rw [wrap64 (by omega) (by omega)]
  obtain ⟨nx, hnx⟩ := hx3
  have hx6 : Sx w6 w.heap.size := ⟨nx, k6.at_ (k5.at_ (hd4.at_ hnx) (fun e => hg e.symm)) (fun e => hg e.symm)⟩
  refine ⟨⟨i + 1, swp d' i (a + o), by simp, by omega, permIn_trans _ _ _ _ _ hp (swp_permIn d' a b i (a + o) hi (by omega) (by omega) (by omega) hb), h6, hx6, ((hk3.trans (Keep.drew _ hd4) fun _ _ h => h).trans k5 fun _ _ h => h).trans k6 fun _ _ h => h⟩, by show ((a + (b - a) / 4 * 2 + 2 : Int) - ((i : Int) + 1)).toNat < ((a + (b - a) / 4 * 2 + 2 : Int) - (i : Int)).toNat; omega⟩
end

end Go.Proofs.YtgepmlgkeljelaaGreat.Vc

/- slices.Sort at []uint32: partialInsertionSort. -/
namespace Go.Proofs.YtgepmlgkeljelaaGreat.Vc
open Go Go.Proofs Go.Sort

theorem shiftDown_size : ∀ (j : Nat) (d : Array Int), (shiftDown ltInt j d).size = d.size
  | 0, _ => rfl
  | j + 1, d => by
    unfold shiftDown
    split
    · rfl
    · rw [shiftDown_size j, swp_size]
theorem shiftUp_size (b j : Nat) (d : Array Int) : (shiftUp ltInt b j d).size = d.size := by
  fun_induction shiftUp ltInt b j d with
  | case1 => rfl
  | case2 => rename_i ih; rw [ih, swp_size]
  | case3 => rfl
theorem scanSorted_ge (d : Array Int) (b i : Nat) (hib : i ≤ b) : i ≤ scanSorted ltInt d b i ∧ scanSorted ltInt d b i ≤ b := by
  fun_induction scanSorted ltInt d b i with
  | case1 i h ih =>
    simp only [Bool.and_eq_true, decide_eq_true_eq] at h
    have := ih (by omega)
    omega
  | case2 i h => omega

section
variable {w : World} {g c : Nat} {d : Array Int}

theorem s_partialInsertionSort (h : Row w g c d) {a b : Nat} (hab : a < b) (hb : b ≤ d.size) (hsm : d.size ≤ 100000) :
    Calls P F.«slices_partialInsertionSortOrdered_uint32» ⟨[.slice (some ⟨g, 0, none⟩) d.size c, .int .i64 (a : Nat), .int .i64 (b : Nat)]⟩ w fun e w' => e = .returned (.bool (partialInsertionSort ltInt d a b).2) ∧ SPost w g c (partialInsertionSort ltInt d a b).1 w' := by
  refine ok_slices_partialInsertionSortOrdered_uint32 ?_
  unfold V_slices_partialInsertionSortOrdered_uint32
  have e1 : IntKind.wrap .i64 ((a : Int) + 1) = ((a + 1 : Nat) : Int) := by rw [wrap64 (by omega) (by omega)]; omega
  have e2 : IntKind.wrap .i64 ((b : Int) - (a : Int)) = ((b - a : Nat) : Int) := by rw [wrap64 (by omega) (by omega)]; omega
  simp only [e1, e2]
  refine ⟨fun t w' => ∃ (i s : Nat) (d' : Array Int), t.1 = (i : Int) ∧ t.2.1 = 5 - (s : Int) ∧ s ≤ 5 ∧ a + 1 ≤ i ∧ i ≤ b ∧ d'.size = d.size ∧ SPost w g c d' w' ∧ partialIns ltInt a b s i d' = partialInsertionSort ltInt d a b, fun t _ => (5 - t.2.1).toNat,
    ⟨a + 1, 5, d, rfl, rfl, by omega, by omega, by omega, rfl, ⟨h, Keep.refl _ _⟩, rfl⟩, ?_⟩
  rintro _ _ _ w1 ⟨i, s, d', rfl, rfl, hs, hi1, hi2, hsz, hp, he⟩
  refine bcase_mk (fun h5 => ?_) (fun h5 => ?_)
  rotate_left 1
  · have h5 : ¬ (5 - (s : Int)) < 5 := of_decide_eq_false h5
    have hs0 : s = 0 := by omega
    subst hs0
    rw [← he]
    exact ⟨rfl, hp⟩
  have h5 : (5 - (s : Int)) < 5 := of_decide_eq_true h5
  obtain ⟨s', hs'⟩ : ∃ s', s = s' + 1 := ⟨s - 1, by omega⟩
  have hge := scanSorted_ge d' b i hi2
  have hst : partialIns ltInt a b s i d' = (if scanSorted ltInt d' b i = b then (d', true) else if b - a < 50 then (d', false) else
      partialIns ltInt a b s' (scanSorted ltInt d' b i) (
        if b - scanSorted ltInt d' b i ≥ 2 then shiftUp ltInt b (scanSorted ltInt d' b i + 1) (if scanSorted ltInt d' b i - a ≥ 2 then shiftDown ltInt (scanSorted ltInt d' b i - 1) (swp d' (scanSorted ltInt d' b i) (scanSorted ltInt d' b i - 1)) else swp d' (scanSorted ltInt d' b i) (scanSorted ltInt d' b i - 1))
        else if scanSorted ltInt d' b i - a ≥ 2 then shiftDown ltInt (scanSorted ltInt d' b i - 1) (swp d' (scanSorted ltInt d' b i) (scanSorted ltInt d' b i - 1)) else swp d' (scanSorted ltInt d' b i) (scanSorted ltInt d' b i - 1))) := by
    subst hs'
    rfl
  rw [he] at hst
  refine ⟨fun t w' => t.1 = ((scanSorted ltInt d' b i : Nat) : Int) ∧ SPost w g c d' w', ⟨fun t w' => ∃ m : Nat, t.1 = (m : Int) ∧ a + 1 ≤ m ∧ m ≤ b ∧ SPost w g c d' w' ∧ scanSorted ltInt d' b m = scanSorted ltInt d' b i, fun t _ => ((b : Int) - t.1).toNat, ⟨i, rfl, hi1, hi2, hp, rfl⟩, ?_⟩, ?_⟩
  · rintro _ _ w2 ⟨m, rfl, hm1, hm2, hp2, he2⟩
    refine bcase_mk (fun hmb => ?_) (fun hmb w3 hd => ?_)
    · have hmb : (m : Int) < (b : Int) := of_decide_eq_true hmb
      have e3 : IntKind.wrap .i64 ((m : Int) - 1) = ((m - 1 : Nat) : Int) := by rw [wrap64 (by omega) (by omega)]; omega
      have e4 : IntKind.wrap .i64 ((m : Int) + 1) = ((m + 1 : Nat) : Int) := by rw [wrap64 (by omega) (by omega)]; omega
      simp only [e3, e4]
      rw [← hsz] at hb hsm ⊢
      refine ⟨⟨by omega, by omega⟩, _, hp2.1.cell (i := m) (by omega), ⟨by omega, by omega⟩, _, hp2.1.cell (i := m - 1) (by omega), fun w3 hd => (s_Less w3 _ _).mono ?_⟩
      rintro _ _ ⟨rfl, rfl⟩
      have hsc : scanSorted ltInt d' b m = if !ltInt d'[m]! d'[m - 1]! then scanSorted ltInt d' b (m + 1) else m := by
        conv => lhs; unfold scanSorted
        simp only [show decide (m < b) = true by simp; omega, Bool.true_and]
      refine ⟨_, rfl, bcase_mk (fun hl => ?_) (fun hl => ?_)⟩
      · rw [if_pos hl] at hsc
        exact ⟨⟨m + 1, rfl, by omega, by omega, hp2.drew hd, by rw [← hsc]; exact he2⟩, by show ((b : Int) - ((m + 1 : Nat) : Int)).toNat < ((b : Int) - (m : Int)).toNat; omega⟩
      · rw [if_neg (by rw [hl]; simp)] at hsc
        exact ⟨by show (m : Int) = _; rw [← he2, hsc], hp2.drew hd⟩
    · have hmb : ¬ (m : Int) < (b : Int) := of_decide_eq_false hmb
      have hsc : scanSorted ltInt d' b m = m := by unfold scanSorted; rw [if_neg (by simp; intro; omega)]
      exact ⟨by show (m : Int) = _; rw [← he2, hsc], hp2.drew hd⟩
  rintro _ _ w2 ⟨rfl, hp2⟩
  generalize scanSorted ltInt d' b i = m at hst hge
  refine bcase_mk (fun hmb => ?_) (fun hmb => bcase_mk (fun h50 => ?_) (fun h50 => ?_))
  · have hmb : m = b := by have : (m : Int) = (b : Int) := by simpa using hmb
                           omega
    rw [if_pos hmb] at hst
    rw [hst]
    exact ⟨rfl, hp2⟩
  · have hmb : ¬ m = b := by have : ¬ (m : Int) = (b : Int) := by simpa using hmb
                             omega
    have h50 : ((b - a : Nat) : Int) < 50 := of_decide_eq_true h50
    rw [if_neg hmb, if_pos (by omega)] at hst
    rw [hst]
    exact ⟨rfl, hp2⟩
  have hmb : ¬ m = b := by have : ¬ (m : Int) = (b : Int) := by simpa using hmb
                           omega
  have h50 : ¬ ((b - a : Nat) : Int) < 50 := of_decide_eq_false h50
  rw [if_neg hmb, if_neg (by omega)] at hst
  have e3 : IntKind.wrap .i64 ((m : Int) - 1) = ((m - 1 : Nat) : Int) := by rw [wrap64 (by omega) (by omega)]; omega
  have e4 : IntKind.wrap .i64 ((m : Int) - (a : Int)) = ((m - a : Nat) : Int) := by rw [wrap64 (by omega) (by omega)]; omega
  have e5 : IntKind.wrap .i64 ((b : Int) - (m : Int)) = ((b - m : Nat) : Int) := by rw [wrap64 (by omega) (by omega)]; omega
  have e6 : IntKind.wrap .i64 ((m : Int) + 1) = ((m + 1 : Nat) : Int) := by rw [wrap64 (by omega) (by omega)]; omega
  have e7 : IntKind.wrap .i64 ((5 - (s : Int)) + 1) = 5 - (s' : Int) := by rw [wrap64 (by omega) (by omega)]; omega
  simp only [e3, e4, e5, e6, e7]
  rw [← hsz] at hb hsm ⊢
  have again : ∀ (nz : Nat), nz = d.size → ∀ (d2 : Array Int) w', d2.size = d'.size → SPost w g c d2 w' → partialIns ltInt a b s' m d2 = partialInsertionSort ltInt d a b →
      (∃ (i s : Nat) (d' : Array Int), (m : Int) = (i : Int) ∧ 5 - (s' : Int) = 5 - (s : Int) ∧ s ≤ 5 ∧ a + 1 ≤ i ∧ i ≤ b ∧ d'.size = nz ∧ SPost w g c d' w' ∧ partialIns ltInt a b s i d' = partialInsertionSort ltInt d a b) ∧ (5 - (5 - (s' : Int))).toNat < (5 - (5 - (s : Int))).toNat :=
    fun nz hnz d2 w' h1 h2 h3 => ⟨⟨m, s', d2, rfl, rfl, by omega, by omega, by omega, by rw [h1, hsz, hnz], h2, h3⟩, by omega⟩
  refine ⟨⟨by omega, by omega⟩, _, hp2.1.cell (i := m - 1) (by omega), ⟨by omega, by omega⟩, _, hp2.1.cell (i := m) (by omega), ⟨by omega, by omega⟩, fun w3 hd3 => row_store (hp2.1.drew hd3) (by omega) fun w4 h4 k4 => ⟨⟨by omega, by omega⟩, row_store h4 (by simp; omega) fun w5 h5' k5 => ?_⟩⟩
  have p5 : SPost w g c (swp d' m (m - 1)) w5 := ⟨h5', ((hp2.drew hd3).2.trans k4 fun _ _ h => h).trans k5 fun _ _ h => h⟩
  have z5 : (swp d' m (m - 1)).size = d'.size := swp_size _ _ _
  generalize swp d' m (m - 1) = d5 at p5 hst z5
  clear h4 h5' k4 k5
  have zA : (if m - a ≥ 2 then shiftDown ltInt (m - 1) d5 else d5).size = d'.size := by split; rw [shiftDown_size, z5]; exact z5
  refine ⟨fun _ w' => SPost w g c (if m - a ≥ 2 then shiftDown ltInt (m - 1) d5 else d5) w', bcase_mk (fun hm2 => ?_) (fun hm2 => ?_), ?_⟩
  · have hm2 : ((m - a : Nat) : Int) ≥ 2 := of_decide_eq_true hm2
    rw [if_pos (by omega)]
    refine ⟨fun t w' => ∃ (j : Nat) (d2 : Array Int), t.1 = (j : Int) ∧ j ≤ m - 1 ∧ d2.size = d'.size ∧ SPost w g c d2 w' ∧ shiftDown ltInt j d2 = shiftDown ltInt (m - 1) d5, fun t _ => t.1.toNat, ⟨m - 1, d5, rfl, Nat.le_refl _, z5, p5, rfl⟩, ?_⟩
    rintro _ _ w6 ⟨j, d2, rfl, hj, hz2, p6, he6⟩
    refine bcase_mk (fun hj1 => ?_) (fun hj1 => ?_)
    · have hj1 : (j : Int) ≥ 1 := of_decide_eq_true hj1
      obtain ⟨k, hk⟩ : ∃ k, j = k + 1 := ⟨j - 1, by omega⟩
      have e8 : IntKind.wrap .i64 ((j : Int) - 1) = ((k : Nat) : Int) := by rw [wrap64 (by omega) (by omega)]; omega
      simp only [e8]
      have hsd : shiftDown ltInt j d2 = if !ltInt d2[j]! d2[k]! then d2 else shiftDown ltInt k (swp d2 j k) := by
        subst hk; rfl
      rw [he6] at hsd
      rw [← hz2] at hb hsm ⊢
      refine ⟨⟨by omega, by omega⟩, _, p6.1.cell (i := j) (by omega), ⟨by omega, by omega⟩, _, p6.1.cell (i := k) (by omega), fun w7 hd => (s_Less w7 _ _).mono ?_⟩
      rintro _ _ ⟨rfl, rfl⟩
      have p7 := p6.drew hd
      refine ⟨_, rfl, bcase_mk (fun hl => ?_) (fun hl => ?_)⟩
      · rw [hsd, if_pos hl]; exact p7
      · rw [if_neg (by rw [hl]; simp)] at hsd
        refine ⟨⟨by omega, by omega⟩, _, p7.1.cell (i := k) (by omega), ⟨by omega, by omega⟩, _, p7.1.cell (i := j) (by omega), ⟨by omega, by omega⟩, fun w8 hd8 => row_store (p7.1.drew hd8) (by omega) fun w9 h9 k9 => ⟨⟨by omega, by omega⟩, row_store h9 (by simp; omega) fun w10 h10 k10 => ?_⟩⟩
        exact ⟨⟨k, swp d2 j k, rfl, by omega, by rw [swp_size], ⟨h10, ((p7.drew hd8).2.trans k9 fun _ _ h => h).trans k10 fun _ _ h => h⟩, hsd.symm⟩, by show ((k : Nat) : Int).toNat < ((j : Nat) : Int).toNat; omega⟩
    · have hj1 : ¬ (j : Int) ≥ 1 := of_decide_eq_false hj1
      have hj0 : j = 0 := by omega
      subst hj0
      rw [← he6]; exact p6
  · have hm2 : ¬ ((m - a : Nat) : Int) ≥ 2 := of_decide_eq_false hm2
    rw [if_neg (by omega)]; exact p5
  · rintro _ w6 p6
    generalize (if m - a ≥ 2 then shiftDown ltInt (m - 1) d5 else d5) = dA at p6 hst zA
    refine bcase_mk (fun hb2 => ?_) (fun hb2 => ?_)
    · have hb2 : ((b - m : Nat) : Int) ≥ 2 := of_decide_eq_true hb2
      rw [if_pos (by omega)] at hst
      refine ⟨fun t w' => ∃ (j : Nat) (d2 : Array Int), t.1 = (j : Int) ∧ m + 1 ≤ j ∧ d2.size = d'.size ∧ SPost w g c d2 w' ∧ shiftUp ltInt b j d2 = shiftUp ltInt b (m + 1) dA, fun t _ => ((b : Int) - t.1).toNat, ⟨m + 1, dA, rfl, Nat.le_refl _, zA, p6, rfl⟩, ?_⟩
      rintro _ _ w7 ⟨j, d2, rfl, hj, hz2, p7, he7⟩
      refine bcase_mk (fun hjb => ?_) (fun hjb => ?_)
      · have hjb : (j : Int) < (b : Int) := of_decide_eq_true hjb
        have e8 : IntKind.wrap .i64 ((j : Int) - 1) = ((j - 1 : Nat) : Int) := by rw [wrap64 (by omega) (by omega)]; omega
        have e9 : IntKind.wrap .i64 ((j : Int) + 1) = ((j + 1 : Nat) : Int) := by rw [wrap64 (by omega) (by omega)]; omega
        simp only [e8, e9]
        have hsu : shiftUp ltInt b j d2 = if !ltInt d2[j]! d2[j - 1]! then d2 else shiftUp ltInt b (j + 1) (swp d2 j (j - 1)) := by
          conv => lhs; unfold shiftUp
          rw [if_pos (by omega)]
        rw [he7] at hsu
        rw [← hz2] at hb hsm ⊢
        refine ⟨⟨by omega, by omega⟩, _, p7.1.cell (i := j) (by omega), ⟨by omega, by omega⟩, _, p7.1.cell (i := j - 1) (by omega), fun w8 hd => (s_Less w8 _ _).mono ?_⟩
        rintro _ _ ⟨rfl, rfl⟩
        have p8 := p7.drew hd
        refine ⟨_, rfl, bcase_mk (fun hl => ?_) (fun hl => ?_)⟩
        · rw [if_pos hl] at hsu
          rw [hsu] at hst
          exact again _ (hz2.trans hsz) d2 _ hz2 p8 hst.symm
        · rw [if_neg (by rw [hl]; simp)] at hsu
          refine ⟨⟨by omega, by omega⟩, _, p8.1.cell (i := j - 1) (by omega), ⟨by omega, by omega⟩, _, p8.1.cell (i := j) (by omega), ⟨by omega, by omega⟩, fun w9 hd9 => row_store (p8.1.drew hd9) (by omega) fun w10 h10 k10 => ⟨⟨by omega, by omega⟩, row_store h10 (by simp; omega) fun w11 h11 k11 => ?_⟩⟩
          exact ⟨⟨j + 1, swp d2 j (j - 1), rfl, by omega, by rw [swp_size], ⟨h11, ((p8.drew hd9).2.trans k10 fun _ _ h => h).trans k11 fun _ _ h => h⟩, hsu.symm⟩, by show ((b : Int) - ((j + 1 : Nat) : Int)).toNat < ((b : Int) - (j : Int)).toNat; omega⟩
      · have hjb : ¬ (j : Int) < (b : Int) := of_decide_eq_false hjb
        have hsu : shiftUp ltInt b j d2 = d2 := by unfold shiftUp; rw [if_neg (by omega)]
        rw [he7] at hsu
        rw [hsu] at hst
        exact again _ hsz d2 _ hz2 p7 hst.symm
    · have hb2 : ¬ ((b - m : Nat) : Int) ≥ 2 := of_decide_eq_false hb2
      rw [if_neg (by omega)] at hst
      exact again _ hsz dA _ zA p6 hst.symm
end

end Go.Proofs.YtgepmlgkeljelaaGreat.Vc

/- slices.Sort at []uint32: pdqsort, Sort. -/
namespace Go.Proofs.YtgepmlgkeljelaaGreat.Vc
open Go Go.Proofs Go.Sort

theorem lt_false {x y : Int} : ltInt x y = false ↔ ¬ x < y := by simp [ltInt]
theorem lt_true {x y : Int} : ltInt x y = true ↔ x < y := by simp [ltInt]

theorem below_perm {a b : Nat} {d d' : Array Int} (hb : b ≤ d.size) (h : Sort.Below ltInt a b d) (hp : PermIn a b d d') : Sort.Below ltInt a b d' := by
  rcases h with h | h
  · exact .inl h
  · by_cases ha : a = 0
    · exact .inl ha
    · right
      have e : d'[a - 1]! = d[a - 1]! := hp.2.1 (a - 1) (.inl (by omega))
      rw [e]
      exact permIn_all d d' a b (fun x => ltInt x d[a - 1]! = false) hb hp h

/-- Two sorted parts, an element between them. -/
theorem join {a m b : Nat} {d : Array Int} (hL : ∀ i, a ≤ i → i < m → d[i]! < d[m]!) (hR : ∀ i, m < i → i < b → ¬ d[i]! < d[m]!) (s1 : SortedIn ltInt a m d) (s2 : SortedIn ltInt (m + 1) b d) : SortedIn ltInt a b d := by
  intro i j hi hij hj
  rw [lt_false]
  by_cases h1 : j < m
  · have := s1 i j hi hij h1; rw [lt_false] at this; exact this
  · by_cases h2 : m < i
    · have := s2 i j (by omega) hij hj; rw [lt_false] at this; exact this
    · by_cases h3 : j = m
      · subst h3
        have := hL i hi hij; omega
      · have hj' := hR j (by omega) hj
        by_cases h4 : i = m
        · subst h4; exact hj'
        · have := hL i hi (by omega); omega

section
variable {g c : Nat}

theorem lt_all {d : Array Int} {a b : Nat} {x : Int} (h : ∀ i, a ≤ i → i < b → ltInt x d[i]! = true) : ∀ i, a ≤ i → i < b → x < d[i]! := fun i h1 h2 => lt_true.1 (h i h1 h2)

/-- What the loop keeps: if the rest is sorted, all is. -/
structure PInv (a b : Nat) (d : Array Int) (a' b' : Nat) (d' : Array Int) : Prop where
  ha : a ≤ a'
  hab : a' ≤ b'
  hb : b' ≤ b
  perm : PermIn a b d d'
  below : Sort.Below ltInt a' b' d'
  fin : ∀ d'', PermIn a' b' d' d'' → SortedIn ltInt a' b' d'' → SortedIn ltInt a b d''

theorem PInv.step {a b a' b' : Nat} {d d' d2 : Array Int} (hs : b ≤ d.size) (h : PInv a b d a' b' d') (hp : PermIn a' b' d' d2) : PInv a b d a' b' d2 := by
  have hsz := h.perm.1
  have := h.hb
  exact ⟨h.ha, h.hab, h.hb, permIn_trans _ _ _ _ _ h.perm (permIn_mono _ _ _ _ _ _ h.ha h.hb (by omega) hp), below_perm (by omega) h.below hp, fun d'' h1 h2 => h.fin d'' (permIn_trans _ _ _ _ _ hp h1) h2⟩

theorem PInv.equal {a b a' b' m p : Nat} {d d' d2 : Array Int} (hs : b ≤ d.size) (h : PInv a b d a' b' d') (h1 : a' < m) (h2 : m ≤ b') (hp : PermIn a' b' d' d2) (h3 : ∀ i, a' ≤ i → i < m → ltInt d'[p]! d2[i]! = false) (h4 : ∀ i, m ≤ i → i < b' → ltInt d'[p]! d2[i]! = true)
    (h5 : ∀ i, a' ≤ i → i < b' → ltInt d2[i]! d'[p]! = false) : PInv a b d m b' d2 := by
  have hsz := h.perm.1
  have hsz2 := hp.1
  have hb := h.hb
  have ha := h.ha
  have eq : ∀ i, a' ≤ i → i < m → d2[i]! = d'[p]! := fun i i1 i2 => by
    have e1 := h3 i i1 i2
    have e2 := h5 i i1 (by omega)
    rw [lt_false] at e1 e2
    omega
  refine ⟨by omega, h2, hb, (h.step hs hp).perm, .inr fun i i1 i2 => ?_, fun d'' k1 k2 => h.fin d'' (permIn_trans _ _ _ _ _ hp (permIn_mono _ _ _ _ _ _ (by omega) (Nat.le_refl _) (by omega) k1)) ?_⟩
  · rw [eq (m - 1) (by omega) (by omega)]
    exact h5 i (by omega) i2
  · have hR : ∀ i, m ≤ i → i < b' → d'[p]! < d''[i]! := by
      have := permIn_all d2 d'' m b' (fun x => d'[p]! < x) (by omega) k1 (fun i i1 i2 => lt_true.1 (h4 i i1 i2))
      exact this
    have hL : ∀ i, a' ≤ i → i < m → d''[i]! = d'[p]! := fun i i1 i2 => by rw [k1.2.1 i (.inl i2)]; exact eq i i1 i2
    intro i j i1 ij j1
    rw [lt_false]
    by_cases hj : j < m
    · rw [hL j (by omega) hj, hL i i1 (by omega)]; omega
    · by_cases hi : i < m
      · rw [hL i i1 hi]; have := hR j (by omega) j1; omega
      · have := k2 i j (by omega) ij j1; rw [lt_false] at this; exact this

theorem PInv.left {a b a' b' m : Nat} {d d' d2 d3 : Array Int} (hs : b ≤ d.size) (h : PInv a b d a' b' d') (h1 : a' ≤ m) (h2 : m < b') (hp : PermIn a' b' d' d2)
    (hL : ∀ i, a' ≤ i → i < m → ltInt d2[i]! d2[m]! = true) (hR : ∀ i, m < i → i < b' → ltInt d2[i]! d2[m]! = false) (hq : PermIn a' m d2 d3) (hsd : SortedIn ltInt a' m d3) : PInv a b d (m + 1) b' d3 := by
  have hsz := h.perm.1
  have hsz2 := hp.1
  have hsz3 := hq.1
  have hb := h.hb
  have ha := h.ha
  have hm : d3[m]! = d2[m]! := hq.2.1 m (.inr (Nat.le_refl _))
  have hp3 : PermIn a' b' d' d3 := permIn_trans _ _ _ _ _ hp (permIn_mono _ _ _ _ _ _ (Nat.le_refl _) (by omega) (by omega) hq)
  have hR3 : ∀ i, m < i → i < b' → ltInt d3[i]! d3[m]! = false := fun i i1 i2 => by rw [hm, hq.2.1 i (.inr (by omega))]; exact hR i i1 i2
  have hL3 : ∀ i, a' ≤ i → i < m → d3[i]! < d3[m]! := by
    rw [hm]
    exact permIn_all d2 d3 a' m (fun x => x < d2[m]!) (by omega) hq (fun i i1 i2 => lt_true.1 (hL i i1 i2))
  refine ⟨by omega, by omega, hb, (h.step hs hp3).perm, .inr fun i i1 i2 => hR3 i (by omega) i2, fun d'' k1 k2 => h.fin d'' (permIn_trans _ _ _ _ _ hp3 (permIn_mono _ _ _ _ _ _ (by omega) (Nat.le_refl _) (by omega) k1)) ?_⟩
  have em : d''[m]! = d3[m]! := k1.2.1 m (.inl (by omega))
  refine join (m := m) (fun i i1 i2 => ?_) (fun i i1 i2 => ?_) (fun i j i1 ij j1 => ?_) k2
  · rw [em, k1.2.1 i (.inl (by omega))]; exact hL3 i i1 i2
  · rw [em]
    exact permIn_all d3 d'' (m + 1) b' (fun x => ¬ x < d3[m]!) (by omega) k1 (fun i i1 i2 => lt_false.1 (hR3 i (by omega) i2)) i i1 i2
  · rw [k1.2.1 i (.inl (by omega)), k1.2.1 j (.inl (by omega))]; exact hsd i j i1 ij j1

theorem PInv.right {a b a' b' m : Nat} {d d' d2 d3 : Array Int} (hs : b ≤ d.size) (h : PInv a b d a' b' d') (h1 : a' ≤ m) (h2 : m < b') (hp : PermIn a' b' d' d2)
    (hL : ∀ i, a' ≤ i → i < m → ltInt d2[i]! d2[m]! = true) (hR : ∀ i, m < i → i < b' → ltInt d2[i]! d2[m]! = false) (hq : PermIn (m + 1) b' d2 d3) (hsd : SortedIn ltInt (m + 1) b' d3) : PInv a b d a' m d3 := by
  have hsz := h.perm.1
  have hsz2 := hp.1
  have hsz3 := hq.1
  have hb := h.hb
  have ha := h.ha
  have hm : d3[m]! = d2[m]! := hq.2.1 m (.inl (by omega))
  have hp3 : PermIn a' b' d' d3 := permIn_trans _ _ _ _ _ hp (permIn_mono _ _ _ _ _ _ (by omega) (Nat.le_refl _) (by omega) hq)
  have hL3 : ∀ i, a' ≤ i → i < m → d3[i]! < d3[m]! := fun i i1 i2 => by rw [hm, hq.2.1 i (.inl (by omega))]; exact lt_true.1 (hL i i1 i2)
  have hR3 : ∀ i, m + 1 ≤ i → i < b' → ¬ d3[i]! < d3[m]! := by
    rw [hm]
    exact permIn_all d2 d3 (m + 1) b' (fun x => ¬ x < d2[m]!) (by omega) hq (fun i i1 i2 => lt_false.1 (hR i (by omega) i2))
  refine ⟨ha, h1, by omega, (h.step hs hp3).perm, ?_, fun d'' k1 k2 => h.fin d'' (permIn_trans _ _ _ _ _ hp3 (permIn_mono _ _ _ _ _ _ (Nat.le_refl _) (by omega) (by omega) k1)) ?_⟩
  · rcases (h.step hs hp3).below with h0 | h0
    · exact .inl h0
    · exact .inr fun i i1 i2 => h0 i i1 (by omega)
  · have em : d''[m]! = d3[m]! := k1.2.1 m (.inr (Nat.le_refl _))
    refine join (m := m) (fun i i1 i2 => ?_) (fun i i1 i2 => ?_) k2 (fun i j i1 ij j1 => ?_)
    · rw [em]
      exact permIn_all d3 d'' a' m (fun x => x < d3[m]!) (by omega) k1 hL3 i i1 i2
    · rw [em, k1.2.1 i (.inr (by omega))]; exact hR3 i (by omega) i2
    · rw [k1.2.1 i (.inr (by omega)), k1.2.1 j (.inr (by omega))]; exact hsd i j i1 ij j1

theorem s_pdq : ∀ (n : Nat) (w : World) (d : Array Int) (a b : Nat) (limit : Int), b - a < n → Row w g c d → a ≤ b → b ≤ d.size → d.size ≤ 100000 → Sort.Below ltInt a b d →
    Calls P F.«slices_pdqsortOrdered_uint32» ⟨[.slice (some ⟨g, 0, none⟩) d.size c, .int .i64 (a : Nat), .int .i64 (b : Nat), .int .i64 limit]⟩ w fun e w' => e = .returned (.tuple ⟨[]⟩) ∧ ∃ d', PermIn a b d d' ∧ SortedIn ltInt a b d' ∧ SPost w g c d' w' := by
  intro n
  induction n with
  | zero => intro w d a b limit hn; omega
  | succ n ih =>
    intro w d a b limit hn h hab hb hsm hbl
    refine ok_slices_pdqsortOrdered_uint32 ?_
    refine ⟨fun t w' => ∃ (a' b' : Nat) (d' : Array Int), t.1 = (a' : Int) ∧ t.2.1 = (b' : Int) ∧ PInv a b d a' b' d' ∧ SPost w g c d' w', fun t _ => (t.2.1 - t.1).toNat,
      ⟨a, b, d, rfl, rfl, ⟨Nat.le_refl _, hab, Nat.le_refl _, permIn_refl _ _ _, hbl, fun _ _ h => h⟩, h, Keep.refl _ _⟩, ?_⟩
    rintro _ _ _ limit' wb wp w1 ⟨a', b', d', rfl, rfl, hI, hp⟩
    have hsz := hI.perm.1
    have hab' := hI.hab
    have hb' := hI.hb
    have ha' := hI.ha
    have e1 : IntKind.wrap .i64 ((b' : Int) - (a' : Int)) = ((b' - a' : Nat) : Int) := by rw [wrap64 (by omega) (by omega)]; omega
    simp only [e1]
    have hbs : b' ≤ d'.size := by omega
    have hsm' : d'.size ≤ 100000 := by omega
    rw [← hsz]
    refine bcase_mk (fun h12 => (s_insertionSort hp.1 hab' hbs hsm').mono ?_) (fun h12 => ?_)
    · rintro _ w2 ⟨rfl, p2, _⟩
      obtain ⟨q1, q2⟩ := insertionSort_holds swo_ltInt d' a' b' hab' hbs
      exact ⟨by first | exact rfl | exact trivial, by first | exact rfl | exact trivial, _, (hI.step hb q1).perm, hI.fin _ q1 q2, hp.trans p2⟩
    have h12 : ¬ ((b' - a' : Nat) : Int) ≤ 12 := of_decide_eq_false h12
    refine bcase_mk (fun h0 => (s_heapSort hp.1 (by omega) hbs hsm').mono ?_) (fun h0 => ?_)
    · rintro _ w2 ⟨rfl, p2, _⟩
      obtain ⟨q1, q2⟩ := heapSort_holds swo_ltInt d' a' b' hab' hbs
      exact ⟨by first | exact rfl | exact trivial, by first | exact rfl | exact trivial, _, (hI.step hb q1).perm, hI.fin _ q1 q2, hp.trans p2⟩
    refine ⟨fun _ w' => ∃ d2, PermIn a' b' d' d2 ∧ SPost w g c d2 w', bcase_mk (fun _ => (s_breakPatterns hp.1 hab' hbs hsm').mono ?_) (fun _ => ⟨d', permIn_refl _ _ _, hp⟩), ?_⟩
    · rintro _ w2 ⟨rfl, d2, q1, p2⟩
      exact ⟨by first | exact rfl | exact trivial, d2, q1, hp.trans p2⟩
    rintro _ lim2 w2 ⟨d2, q2, p2⟩
    have z2 := q2.1
    rw [← z2] at hbs hsm' ⊢
    refine (s_choosePivot p2.1 (by omega) hbs hsm').mono ?_
    rintro _ w3 ⟨⟨x, hint, rfl, hx1, hx2⟩, r3, k3⟩
    have p3 : SPost w g c d2 w3 := ⟨r3, p2.2.trans k3 fun _ _ h => h.elim⟩
    refine ⟨_, _, rfl, fun t w' => ∃ (p : Nat) (d3 : Array Int), t.1 = (p : Int) ∧ a' ≤ p ∧ p < b' ∧ PermIn a' b' d' d3 ∧ SPost w g c d3 w', bcase_mk (fun _ => (s_reverseRange p3.1 (by omega) hbs).mono ?_) (fun _ => ⟨x, d2, rfl, hx1, hx2, q2, p3⟩), ?_⟩
    · rintro _ w4 ⟨rfl, p4⟩
      have e2 : IntKind.wrap .i64 ((b' : Int) - 1) = ((b' - 1 : Nat) : Int) := by rw [wrap64 (by omega) (by omega)]; omega
      have e3 : IntKind.wrap .i64 ((x : Int) - (a' : Int)) = ((x - a' : Nat) : Int) := by rw [wrap64 (by omega) (by omega)]; omega
      have e4 : IntKind.wrap .i64 (((b' - 1 : Nat) : Int) - ((x - a' : Nat) : Int)) = ((b' - 1 - (x - a') : Nat) : Int) := by rw [wrap64 (by omega) (by omega)]; omega
      simp only [e2, e3, e4]
      exact ⟨by first | exact rfl | exact trivial, _, _, rfl, by omega, by omega, permIn_trans _ _ _ _ _ q2 (reverseRange_holds d2 a' b' hab' hbs), p3.trans p4⟩
    clear p2 p3 r3 k3 q2 hx1 hx2
    rintro _ _ hint2 w4 ⟨p, d3, rfl, hp1, hp2, q3, p3⟩
    refine ⟨fun _ w' => ∃ d4, PermIn a' b' d' d4 ∧ SPost w g c d4 w', ⟨fun _ w' => w4 = w', bcase_mk (fun _ => bcase_mk (fun _ => by first | exact rfl | exact trivial) (fun _ => by first | exact rfl | exact trivial)) (fun _ => by first | exact rfl | exact trivial), ?_⟩, ?_⟩
    · have z3 := q3.1
      rintro _ b68 _ rfl
      rw [z2, ← z3]
      refine bcase_mk (fun _ => (s_partialInsertionSort p3.1 (by omega) (by omega) (by omega)).mono ?_) (fun _ => ⟨d3, q3, p3⟩)
      rintro _ w5 ⟨rfl, p5⟩
      obtain ⟨k1, k2⟩ := partialInsertionSort_holds swo_ltInt d3 a' b' (by omega) (by omega) (hI.step hb q3).below
      have k3 := permIn_trans _ _ _ _ _ q3 k1
      exact ⟨_, rfl, bcase_mk (fun hb5 => ⟨by first | exact rfl | exact trivial, _, (hI.step hb k3).perm, hI.fin _ k3 (k2 hb5), p3.trans p5⟩) (fun _ => ⟨_, k3, p3.trans p5⟩)⟩
    clear p3 q3 hint hint2
    rintro _ w5 ⟨d4, q4, p4⟩
    have z4 := q4.1
    have hI4 := hI.step hb q4
    rw [z2, ← z4]
    clear hp hI q4 d3 w4 w3
    refine ⟨fun t w' => t.1 = (a' : Int) ∧ SPost w g c d4 w', bcase_mk (fun h0 => ?_) (fun _ w6 hd => ⟨rfl, p4.drew hd⟩), ?_⟩
    · have h0 : (a' : Int) > 0 := of_decide_eq_true h0
      have e2 : IntKind.wrap .i64 ((a' : Int) - 1) = ((a' - 1 : Nat) : Int) := by rw [wrap64 (by omega) (by omega)]; omega
      simp only [e2]
      refine ⟨⟨by omega, by omega⟩, _, p4.1.cell (i := a' - 1) (by omega), ⟨by omega, by omega⟩, _, p4.1.cell (i := p) (by omega), fun w6 hd => (s_Less w6 _ _).mono ?_⟩
      rintro _ _ ⟨rfl, rfl⟩
      have p6 := p4.drew hd
      refine ⟨_, rfl, bcase_mk (fun hl => (s_partitionEqual p6.1 (by omega) (by omega) (by omega) (by omega)).mono ?_) (fun _ => ⟨by first | exact rfl | exact trivial, p6⟩)⟩
      have hl : ltInt d4[a' - 1]! d4[p]! = false := by simpa using hl
      rw [lt_false] at hl
      have hge : ∀ i, a' ≤ i → i < b' → ltInt d4[i]! d4[p]! = false := fun i i1 i2 => by
        rcases hI4.below with h | h
        · omega
        · have := h i i1 i2
          rw [lt_false] at this ⊢
          omega
      obtain ⟨k1, k2, k3, k4, k5⟩ := partitionEqual_holds ltInt swo_ltInt d4 a' b' p hp1 hp2 (by omega) hge
      rintro _ w7 ⟨rfl, p7, _⟩
      have hI7 := hI4.equal hb k1 k2 k3 k4 k5 (permIn_all _ _ _ _ (fun x => ltInt x d4[p]! = false) (by omega) k3 hge)
      refine ⟨_, rfl, ⟨_, _, _, rfl, rfl, hI7, p6.trans p7⟩, ?_⟩
      show ((b' : Int) - _).toNat < ((b' : Int) - (a' : Int)).toNat
      omega
    rintro _ _ w6 ⟨rfl, p6⟩
    refine (s_partition p6.1 (a := a') (b := b') (pivot := p) (by omega) (by omega) (by omega) (by omega)).mono ?_
    obtain ⟨k1, k2, k3, k4, k5⟩ := partition_holds ltInt swo_ltInt d4 a' b' p hp1 hp2 (by omega)
    rintro _ w7 ⟨rfl, p7, z7⟩
    generalize (partition ltInt d4 a' b' p).1 = m at k1 k2 k4 k5 ⊢
    generalize (partition ltInt d4 a' b' p).2.2 = d5 at k3 k4 k5 p7 z7
    have p7 := p6.trans p7
    have e3 : IntKind.wrap .i64 ((m : Int) + 1) = ((m + 1 : Nat) : Int) := by rw [wrap64 (by omega) (by omega)]; omega
    have bl5 := (hI4.step hb k3).below
    rw [← z7]
    refine ⟨_, _, rfl, by decide, ?_⟩
    simp only [e3]
    refine bcase_mk (fun _ => (ih w7 d5 a' m _ (by omega) p7.1 k1 (by omega) (by omega) ?_).mono ?_) (fun _ => (ih w7 d5 (m + 1) b' _ (by omega) p7.1 (by omega) (by omega) (by omega) ?_).mono ?_)
    · rcases bl5 with h | h
      · exact .inl h
      · exact .inr fun i i1 i2 => h i i1 (by omega)
    · rintro _ w8 ⟨rfl, d6, j1, j2, p8⟩
      refine ⟨rfl, ⟨_, _, d6, rfl, rfl, hI4.left hb k1 k2 k3 k4 k5 j1 j2, p7.trans p8⟩, ?_⟩
      show ((b' : Int) - ((m + 1 : Nat) : Int)).toNat < ((b' : Int) - (a' : Int)).toNat
      omega
    · exact .inr fun i i1 i2 => k5 i (by omega) i2
    · rintro _ w8 ⟨rfl, d6, j1, j2, p8⟩
      refine ⟨rfl, ⟨_, _, d6, rfl, rfl, hI4.right hb k1 k2 k3 k4 k5 j1 j2, p7.trans p8⟩, ?_⟩
      show ((m : Int) - (a' : Int)).toNat < ((b' : Int) - (a' : Int)).toNat
      omega
end

theorem s_insertion_nil (w : World) (a : Option Addr) (c : Nat) : Calls P F.«slices_insertionSortOrdered_uint32» ⟨[.slice a 0 c, .int .i64 0, .int .i64 0]⟩ w fun e w' => e = .returned (.tuple ⟨[]⟩) ∧ w = w' := by
  refine ok_slices_insertionSortOrdered_uint32 ?_
  refine ⟨fun t w' => t.1 = 1 ∧ w = w', fun _ _ => 0, ⟨rfl, rfl⟩, ?_⟩
  rintro _ _ _ ⟨rfl, rfl⟩
  exact bcase_mk (fun hb => by cases hb) (fun _ => ⟨rfl, rfl⟩)

theorem s_pdq_nil (w : World) (a : Option Addr) (c : Nat) (limit : Int) : Calls P F.«slices_pdqsortOrdered_uint32» ⟨[.slice a 0 c, .int .i64 0, .int .i64 0, .int .i64 limit]⟩ w fun e w' => e = .returned (.tuple ⟨[]⟩) ∧ w = w' := by
  refine ok_slices_pdqsortOrdered_uint32 ?_
  refine ⟨fun t w' => t.1 = 0 ∧ t.2.1 = 0 ∧ w = w', fun _ _ => 0, ⟨rfl, rfl, rfl⟩, ?_⟩
  rintro _ _ _ limit' wb wp _ ⟨rfl, rfl, rfl⟩
  refine bcase_mk (fun _ => (s_insertion_nil w a c).mono ?_) (fun hb => by cases hb)
  rintro _ _ ⟨rfl, rfl⟩
  exact ⟨rfl, rfl, rfl⟩

theorem sortOk : SortOk := by
  intro w a c l h hlen
  refine ok_slices_Sort_sl_uint32_uint32 ?_
  unfold V_slices_Sort_sl_uint32_uint32
  rw [wrapU64 (by omega) (by omega)]
  refine (s_Len w hlen).mono ?_
  rintro _ _ ⟨⟨n, rfl, _⟩, rfl⟩
  refine ⟨_, rfl, ?_⟩
  rcases Sl.cases' h with ⟨rfl, h1, _⟩ | ⟨g, cur, rfl, _⟩
  · have : l = [] := List.eq_nil_of_length_eq_zero h1
    subst this
    refine (s_pdq_nil w none c _).mono ?_
    rintro _ _ ⟨rfl, rfl⟩
    exact ⟨rfl, rfl, [], List.Perm.refl _, List.Pairwise.nil, h, Keep.refl _ _⟩
  · have hr : Row w g c l.toArray := by unfold Row; simpa using h
    refine (s_pdq (l.length + 1) w l.toArray 0 l.length n (by omega) hr (Nat.zero_le _) (by simp) (by simpa using hlen) (.inl rfl)).mono ?_
    rintro _ w1 ⟨rfl, d', hp, hs, hr1, k1⟩
    have hsz : d'.size = l.length := by simpa using hp.1
    refine ⟨rfl, rfl, d'.toList, ?_, ?_, hr1, k1.mono fun g' _ e => by rw [show g' = g from e]; exact Blk.mk _ _⟩
    · have := hp.2.2
      have e1 : d'.toList.take l.length = d'.toList := List.take_of_length_le (by simp; omega)
      have := this
      simp only [Array.toList_extract, List.extract_eq_take_drop, List.drop_zero, Nat.sub_zero] at this
      rw [e1] at this
      simpa using this
    · rw [List.pairwise_iff_getElem]
      intro i j hi hj hij
      have := hs i j (Nat.zero_le _) hij (by simpa [hsz] using hj)
      rw [lt_false] at this
      have e1 : d'[i]! = d'.toList[i] := by simp at hi; simp [hi]
      have e2 : d'[j]! = d'.toList[j] := by simp at hj; simp [hj]
      omega

end Go.Proofs.YtgepmlgkeljelaaGreat.Vc
