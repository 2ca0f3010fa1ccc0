/- slices.Sort at []uint32: each function does to the row what the library's plain function of its name does. -/
import Derived.Test.YtgepmlgkeljelaaTall
import Derived.Test.YtgepmlgkeljelaaTsort
import Derived.Test.YtgepmlgkeljelaaDdHash
import Derived.Sort.AssemblyPlain
namespace Go.Proofs.Ytgepmlgkeljelaa.Vc
open Go Go.Proofs Go.Sort

/-- The row holds d. -/
def Row (w : World) (g c : Nat) (d : Array Int) : Prop := U32 w (some ⟨g, 0, none⟩) c d.toList

namespace Row
variable {w u : World} {g c : Nat} {d : Array Int}
theorem cell (h : Row w g c d) {i : Nat} (hi : i < d.size) : w.cell? ((⟨g, 0, none⟩ : Addr).add (i * 1)) = some (.int .u32 d[i]!) := by
  have hx : d.toList[i]? = some d[i]! := by simp [hi]
  obtain ⟨g', hg, hc⟩ := U32.cell h hx
  cases hg
  exact hc
theorem drew (h : Row w g c d) (hd : Drew w u) : Row u g c d := Sl.keep h (Keep.drew NoB hd) fun _ _ h => h
theorem le (h : Row w g c d) : (d.size : Int) ≤ 9223372036854775807 := by simpa using U32.len_le h
end Row

theorem row_store {w : World} {g c i : Nat} {d : Array Int} {v : Int} {K : World → Prop} (h : Row w g c d) (hi : i < d.size)
    (hk : ∀ u, Row u g c (d.setIfInBounds i v) → Keep (fun b => b = g) w u → K u) :
    (∃ old, w.cell? (((⟨g, 0, none⟩ : Addr).add (i * 1)).add 0) = some old) ∧ w.frozen? (((⟨g, 0, none⟩ : Addr).add (i * 1)).add 0) = false ∧ letW (w.setCell (((⟨g, 0, none⟩ : Addr).add (i * 1)).add 0) (.int .u32 v)) K := by
  have e : ((⟨g, 0, none⟩ : Addr).add (i * 1)).add 0 = (⟨g, 0, none⟩ : Addr).add i := by simp [add_mk]
  rw [e]
  rcases Sl.cases' h with ⟨h1, _⟩ | ⟨g', cur, h1, h2, h3, h4, h5, h6⟩
  · cases h1
  · cases h1
    simp only [Array.length_toList] at h3 h6
    refine store_step h2 (by rw [h5]; omega) fun u hu => hk u ?_ hu.keep
    have := Sl.mk' (n := (d.setIfInBounds i v).toList.length) (sz := 1) hu.at_ (by simpa using h3) h4 (by simpa using h5)
    unfold Row U32
    have e2 : ((d.setIfInBounds i v).toList.map encU) = (cur.setIfInBounds (0 + i) (.int .u32 v)).toList.take ((d.setIfInBounds i v).toList.length * 1) := by
      rw [Array.toList_setIfInBounds, Array.toList_setIfInBounds, List.map_set, ← h6, Nat.zero_add, List.length_set, Array.length_toList, List.take_set]
    rw [e2]
    exact this

section
variable {w : World} {g c : Nat} {d : Array Int}

theorem s_isNaN (w : World) (x : Int) : Calls P F.«cmp_isNaN_uint32» ⟨[.int .u32 x]⟩ w fun e w' => e = .returned (.bool false) ∧ w = w' := by
  refine ok_cmp_isNaN_uint32 ?_
  unfold V_cmp_isNaN_uint32
  exact ⟨by simp, rfl⟩

theorem s_Less (w : World) (x y : Int) : Calls P F.«cmp_Less_uint32» ⟨[.int .u32 x, .int .u32 y]⟩ w fun e w' => e = .returned (.bool (ltInt x y)) ∧ w = w' := by
  refine ok_cmp_Less_uint32 ((s_isNaN w x).mono ?_)
  rintro _ _ ⟨rfl, rfl⟩
  exact ⟨_, rfl, bcase_mk (fun hb => by cases hb) (fun _ => ⟨rfl, rfl⟩)⟩

/-- What a step of the sort does. -/
def SPost (w : World) (g c : Nat) (d : Array Int) (w' : World) : Prop := Row w' g c d ∧ Keep (fun b => b = g) w w'
theorem SPost.trans {w u v : World} {d d' : Array Int} (h : SPost w g c d u) (k : SPost u g c d' v) : SPost w g c d' v := ⟨k.1, h.2.trans k.2 fun _ _ h => h⟩
theorem SPost.drew {w u v : World} (h : SPost w g c d u) (k : Drew u v) : SPost w g c d v := ⟨h.1.drew k, h.2.trans (Keep.drew _ k) fun _ _ h => h⟩

theorem reverseLoop_size (i j : Nat) (d : Array Int) : (reverseLoop i j d).size = d.size := by
  fun_induction reverseLoop i j d with
  | case1 i j d h ih => rw [ih]; simp [swp]
  | case2 i j d h => rfl

theorem s_reverseRange (h : Row w g c d) {a b : Nat} (hab : a < b) (hb : b ≤ d.size) :
    Calls P F.«slices_reverseRangeOrdered_uint32» ⟨[.slice (some ⟨g, 0, none⟩) d.size c, .int .i64 (a : Nat), .int .i64 (b : Nat)]⟩ w fun e w' => e = .returned (.tuple ⟨[]⟩) ∧ SPost w g c (reverseRange d a b) w' := by
  have hll := h.le
  refine ok_slices_reverseRangeOrdered_uint32 ?_
  unfold V_slices_reverseRangeOrdered_uint32
  rw [wrap64 (n := (b : Int) - 1) (by omega) (by omega)]
  refine ⟨fun t w' => ∃ (i j : Nat) (d' : Array Int), t.1 = i ∧ t.2.1 = j ∧ j < b ∧ d'.size = d.size ∧ SPost w g c d' w' ∧ reverseLoop i j d' = reverseRange d a b, fun t _ => (t.2.1 - t.1).toNat,
    ⟨a, b - 1, d, rfl, by show (b : Int) - 1 = ((b - 1 : Nat) : Int); omega, by omega, rfl, ⟨h, Keep.refl _ _⟩, rfl⟩, ?_⟩
  rintro _ _ _ w1 ⟨i, j, d', rfl, rfl, hj, hsz, hp, he⟩
  refine bcase_mk (fun hlt => ?_) (fun hlt => ?_)
  · have hlt : (i : Int) < (j : Int) := of_decide_eq_true hlt
    refine ⟨⟨by omega, by omega⟩, _, hp.1.cell (by omega), ⟨by omega, by omega⟩, _, hp.1.cell (i := i) (by omega), ⟨by omega, by omega⟩, fun w2 hd => row_store (hp.1.drew hd) (by omega) fun w3 h3 k3 => ⟨⟨by omega, by omega⟩, row_store h3 (by simp; omega) fun w4 h4 k4 => ?_⟩⟩
    rw [wrap64 (by omega) (by omega), wrap64 (by omega) (by omega)]
    refine ⟨⟨i + 1, j - 1, swp d' i j, by simp, by show (j : Int) - 1 = ((j - 1 : Nat) : Int); omega, by omega, by simp [swp, hsz], ⟨h4, ((hp.drew hd).2.trans k3 fun _ _ h => h).trans k4 fun _ _ h => h⟩, ?_⟩, by show (((j : Int) - 1) - ((i : Int) + 1)).toNat < ((j : Int) - (i : Int)).toNat; omega⟩
    rw [← he]
    conv => rhs; unfold reverseLoop
    rw [if_pos (by omega)]
  · have hlt : ¬ (i : Int) < (j : Int) := of_decide_eq_false hlt
    refine ⟨rfl, ?_⟩
    rw [← he]
    unfold reverseLoop
    rw [if_neg (by omega)]
    exact hp
theorem swp_size (d : Array Int) (i j : Nat) : (swp d i j).size = d.size := by simp [swp]

theorem s_insertionSort (h : Row w g c d) {a b : Nat} (ha : a ≤ b) (hb : b ≤ d.size) (hsm : d.size ≤ 100000) :
    Calls P F.«slices_insertionSortOrdered_uint32» ⟨[.slice (some ⟨g, 0, none⟩) d.size c, .int .i64 (a : Nat), .int .i64 (b : Nat)]⟩ w fun e w' => e = .returned (.tuple ⟨[]⟩) ∧ SPost w g c (insertionSort ltInt d a b) w' ∧ (insertionSort ltInt d a b).size = d.size := by
  have hll := h.le
  refine ok_slices_insertionSortOrdered_uint32 ?_
  unfold V_slices_insertionSortOrdered_uint32
  rw [wrap64 (n := (a : Int) + 1) (by omega) (by omega)]
  refine ⟨fun t w' => ∃ (i : Nat) (d' : Array Int), t.1 = i ∧ a + 1 ≤ i ∧ d'.size = d.size ∧ SPost w g c d' w' ∧ insOuter ltInt a b i d' = insertionSort ltInt d a b, fun t _ => (b - t.1).toNat,
    ⟨a + 1, d, by simp, by omega, rfl, ⟨h, Keep.refl _ _⟩, rfl⟩, ?_⟩
  rintro _ _ w1 ⟨i, d', rfl, hai, hsz, hp, he⟩
  refine bcase_mk (fun hlt => ?_) (fun hlt => ?_)
  · have hlt : (i : Int) < (b : Int) := of_decide_eq_true hlt
    have hstep : insOuter ltInt a b i d' = insOuter ltInt a b (i + 1) (insInner ltInt a i d') := by
      conv => lhs; unfold insOuter
      rw [if_pos (by omega)]
    rw [hstep] at he
    refine ⟨fun t w' => ∃ (j : Nat) (d2 : Array Int), t.1 = j ∧ j ≤ i ∧ d2.size = d.size ∧ SPost w g c d2 w' ∧ insInner ltInt a j d2 = insInner ltInt a i d', fun t _ => t.1.toNat, ⟨i, d', rfl, Nat.le_refl _, hsz, hp, rfl⟩, ?_⟩
    rintro _ _ w2 ⟨j, d2, rfl, hj, hsz2, hp2, he2⟩
    have done : ∀ w3, SPost w g c d2 w3 → insInner ltInt a j d2 = d2 → (∃ (k : Nat) (d' : Array Int), IntKind.wrap .i64 ((i : Int) + 1) = k ∧ a + 1 ≤ k ∧ d'.size = d.size ∧ SPost w g c d' w3 ∧ insOuter ltInt a b k d' = insertionSort ltInt d a b) ∧ ((b : Int) - IntKind.wrap .i64 ((i : Int) + 1)).toNat < ((b : Int) - (i : Int)).toNat := by
      intro w3 h3 e3
      rw [wrap64 (by omega) (by omega)]
      exact ⟨⟨i + 1, d2, by simp, by omega, hsz2, h3, by rw [← he, ← he2, e3]⟩, by omega⟩
    refine bcase_mk (fun hja => ?_) (fun hja w3 hd => done w3 (hp2.drew hd) ?_)
    · have hja : (j : Int) > (a : Int) := of_decide_eq_true hja
      obtain ⟨k, hk⟩ : ∃ k, j = k + 1 := ⟨j - 1, by omega⟩
      have e1 : IntKind.wrap .i64 ((j : Int) - 1) = ((k : Nat) : Int) := by rw [wrap64 (by omega) (by omega)]; omega
      rw [e1]
      refine ⟨⟨by omega, by omega⟩, _, hp2.1.cell (i := j) (by omega), ⟨by omega, by omega⟩, _, hp2.1.cell (i := k) (by omega), fun w3 hd => (s_Less w3 _ _).mono ?_⟩
      rintro _ _ ⟨rfl, rfl⟩
      have hp3 := hp2.drew hd
      refine ⟨_, rfl, bcase_mk (fun hb1 => ?_) (fun hb1 => done w3 hp3 ?_)⟩
      · refine ⟨⟨by omega, by omega⟩, _, hp3.1.cell (i := k) (by omega), ⟨by omega, by omega⟩, _, hp3.1.cell (i := j) (by omega), ⟨by omega, by omega⟩, fun w4 hd4 => row_store (hp3.1.drew hd4) (by omega) fun w5 h5 k5 => ⟨⟨by omega, by omega⟩, row_store h5 (by simp; omega) fun w6 h6 k6 => ?_⟩⟩
        refine ⟨⟨k, swp d2 j k, rfl, by omega, by rw [swp_size, hsz2], ⟨h6, ((hp3.drew hd4).2.trans k5 fun _ _ h => h).trans k6 fun _ _ h => h⟩, ?_⟩, by show ((k : Nat) : Int).toNat < ((j : Nat) : Int).toNat; omega⟩
        subst hk
        rw [← he2]
        conv => rhs; unfold insInner
        rw [if_pos (by simp [hb1]; omega)]
      · subst hk
        unfold insInner
        rw [if_neg (by simp [hb1])]
    · have hja : ¬ (j : Int) > (a : Int) := of_decide_eq_false hja
      cases j with
      | zero => rfl
      | succ k => unfold insInner; rw [if_neg (by simp; omega)]
  · have hlt : ¬ (i : Int) < (b : Int) := of_decide_eq_false hlt
    have hstep : insOuter ltInt a b i d' = d' := by unfold insOuter; rw [if_neg (by omega)]
    rw [hstep] at he
    subst he
    exact ⟨rfl, hp, hsz⟩
/-- The greater child. -/
def childOf (hi first root : Nat) (d : Array Int) : Nat := if 2 * root + 1 + 1 < hi && ltInt d[first + (2 * root + 1)]! d[first + (2 * root + 1) + 1]! then 2 * root + 2 else 2 * root + 1
theorem childOf_lt {hi first root : Nat} {d : Array Int} (h : 2 * root + 1 < hi) : root < childOf hi first root d ∧ childOf hi first root d < hi := by
  unfold childOf
  split
  · rename_i hc
    simp only [Bool.and_eq_true, decide_eq_true_eq] at hc
    omega
  · omega
theorem siftDown_end {hi first root : Nat} {d : Array Int} (h : 2 * root + 1 ≥ hi) : siftDown ltInt hi first root d = d := by
  unfold siftDown; rw [dif_pos h]
theorem siftDown_step {hi first root : Nat} {d : Array Int} (h : ¬ 2 * root + 1 ≥ hi) :
    siftDown ltInt hi first root d = if !ltInt d[first + root]! d[first + childOf hi first root d]! then d else siftDown ltInt hi first (childOf hi first root d) (swp d (first + root) (first + childOf hi first root d)) := by
  conv => lhs; unfold siftDown
  rw [dif_neg h]
  unfold childOf
  split
  · rename_i hc
    simp only [Bool.and_eq_true, decide_eq_true_eq] at hc
    rw [dif_pos (by omega)]
  · rfl
theorem siftDown_size (hi first root : Nat) (d : Array Int) : (siftDown ltInt hi first root d).size = d.size := by
  fun_induction siftDown ltInt hi first root d with
  | case1 => rfl
  | case2 => rfl
  | case3 => rename_i ih; rw [ih, swp_size]
  | case4 => rfl
  | case5 => rfl
  | case6 => rename_i ih; rw [ih, swp_size]

theorem s_siftDown (h : Row w g c d) (lo hi first : Nat) (hh : first + hi ≤ d.size) (hsm : d.size ≤ 100000) (hlo : lo ≤ 100000) :
    Calls P F.«slices_siftDownOrdered_uint32» ⟨[.slice (some ⟨g, 0, none⟩) d.size c, .int .i64 (lo : Nat), .int .i64 (hi : Nat), .int .i64 (first : Nat)]⟩ w fun e w' => e = .returned (.tuple ⟨[]⟩) ∧ SPost w g c (siftDown ltInt hi first lo d) w' := by
  refine ok_slices_siftDownOrdered_uint32 ⟨fun t w' => ∃ (i : Nat) (d' : Array Int), t.1 = i ∧ i ≤ 100000 ∧ d'.size = d.size ∧ SPost w g c d' w' ∧ siftDown ltInt hi first i d' = siftDown ltInt hi first lo d, fun t _ => ((hi : Int) - t.1).toNat,
    ⟨lo, d, rfl, hlo, rfl, ⟨h, Keep.refl _ _⟩, rfl⟩, ?_⟩
  rintro _ _ w1 ⟨i, d', rfl, hi1, hsz, hp, he⟩
  have e1 : IntKind.wrap .i64 (IntKind.wrap .i64 (2 * (i : Int)) + 1) = ((2 * i + 1 : Nat) : Int) := by
    rw [wrap64 (n := 2 * (i : Int)) (by omega) (by omega), wrap64 (by omega) (by omega)]; omega
  have e2 : IntKind.wrap .i64 (((2 * i + 1 : Nat) : Int) + 1) = ((2 * i + 1 + 1 : Nat) : Int) := by rw [wrap64 (by omega) (by omega)]; omega
  have e3 : IntKind.wrap .i64 ((first : Int) + ((2 * i + 1 : Nat) : Int)) = ((first + (2 * i + 1) : Nat) : Int) := by rw [wrap64 (by omega) (by omega)]; omega
  have e4 : IntKind.wrap .i64 (((first + (2 * i + 1) : Nat) : Int) + 1) = ((first + (2 * i + 1) + 1 : Nat) : Int) := by rw [wrap64 (by omega) (by omega)]; omega
  have e5 : IntKind.wrap .i64 ((first : Int) + (i : Int)) = ((first + i : Nat) : Int) := by rw [wrap64 (by omega) (by omega)]; omega
  simp only [e1, e2, e3, e4, e5]
  refine bcase_mk (fun hge => ?_) (fun hge => ?_)
  · have hge : ((2 * i + 1 : Nat) : Int) ≥ (hi : Int) := of_decide_eq_true hge
    rw [siftDown_end (by omega)] at he
    subst he
    exact ⟨by first | exact rfl | exact trivial, hp⟩
  · have hge : ¬ ((2 * i + 1 : Nat) : Int) ≥ (hi : Int) := of_decide_eq_false hge
    have hst := siftDown_step (hi := hi) (first := first) (root := i) (d := d') (by omega)
    obtain ⟨hc1, hc2⟩ := childOf_lt (hi := hi) (first := first) (root := i) (d := d') (by omega)
    rw [he] at hst
    refine ⟨fun t w' => t.1 = ((childOf hi first i d' : Nat) : Int) ∧ SPost w g c d' w', bcase_mk (fun h2 => ?_) (fun h2 w2 hd => ⟨?_, hp.drew hd⟩), ?_⟩
    · have h2 : ((2 * i + 1 + 1 : Nat) : Int) < (hi : Int) := of_decide_eq_true h2
      refine ⟨⟨by omega, by omega⟩, _, hp.1.cell (i := first + (2 * i + 1)) (by omega), ⟨by omega, by omega⟩, _, hp.1.cell (i := first + (2 * i + 1) + 1) (by omega), fun w2 hd => (s_Less w2 _ _).mono ?_⟩
      rintro _ _ ⟨rfl, rfl⟩
      refine ⟨_, rfl, bcase_mk (fun hb => ⟨?_, hp.drew hd⟩) (fun hb => ⟨?_, hp.drew hd⟩)⟩
      · show ((2 * i + 1 + 1 : Nat) : Int) = _
        unfold childOf
        rw [if_pos (by simp [hb]; omega)]
      · show ((2 * i + 1 : Nat) : Int) = _
        unfold childOf
        rw [if_neg (by simp [hb])]
    · have h2 : ¬ ((2 * i + 1 + 1 : Nat) : Int) < (hi : Int) := of_decide_eq_false h2
      show ((2 * i + 1 : Nat) : Int) = _
      unfold childOf
      rw [if_neg (by simp; intro; omega)]
    · rintro _ _ w3 ⟨rfl, hp3⟩
      generalize childOf hi first i d' = ch at hc1 hc2 hst
      have e6 : IntKind.wrap .i64 ((first : Int) + (ch : Int)) = ((first + ch : Nat) : Int) := by rw [wrap64 (by omega) (by omega)]; omega
      simp only [e6]
      refine ⟨⟨by omega, by omega⟩, _, hp3.1.cell (i := first + i) (by omega), ⟨by omega, by omega⟩, _, hp3.1.cell (i := first + ch) (by omega), fun w4 hd => (s_Less w4 _ _).mono ?_⟩
      rintro _ _ ⟨rfl, rfl⟩
      have hp4 := hp3.drew hd
      refine ⟨_, rfl, bcase_mk (fun hb => ⟨by first | exact rfl | exact trivial, ?_⟩) (fun hb => ⟨⟨by omega, by omega⟩, _, hp4.1.cell (i := first + ch) (by omega), ⟨by omega, by omega⟩, _, hp4.1.cell (i := first + i) (by omega), ⟨by omega, by omega⟩, fun w5 hd5 => row_store (hp4.1.drew hd5) (by omega) fun w6 h6 k6 => ⟨⟨by omega, by omega⟩, row_store h6 (by simp; omega) fun w7 h7 k7 => ?_⟩⟩)⟩
      · rw [hst, if_pos hb]; exact hp4
      · rw [if_neg (by rw [hb]; simp)] at hst
        exact ⟨⟨ch, swp d' (first + i) (first + ch), rfl, by omega, by rw [swp_size, hsz], ⟨h7, ((hp4.drew hd5).2.trans k6 fun _ _ h => h).trans k7 fun _ _ h => h⟩, hst.symm⟩, by show ((hi : Int) - (ch : Int)).toNat < ((hi : Int) - (i : Int)).toNat; omega⟩

theorem heapBuild_size (hi first : Nat) : ∀ (k : Nat) (d : Array Int), (heapBuild ltInt hi first k d).size = d.size
  | 0, _ => rfl
  | k + 1, d => by unfold heapBuild; rw [heapBuild_size hi first k, siftDown_size]
theorem heapPop_size (first : Nat) : ∀ (k : Nat) (d : Array Int), (heapPop ltInt first k d).size = d.size
  | 0, _ => rfl
  | k + 1, d => by unfold heapPop; rw [heapPop_size first k, siftDown_size, swp_size]

theorem s_heapSort (h : Row w g c d) {a b : Nat} (ha : a < b) (hb : b ≤ d.size) (hsm : d.size ≤ 100000) :
    Calls P F.«slices_heapSortOrdered_uint32» ⟨[.slice (some ⟨g, 0, none⟩) d.size c, .int .i64 (a : Nat), .int .i64 (b : Nat)]⟩ w fun e w' => e = .returned (.tuple ⟨[]⟩) ∧ SPost w g c (heapSort ltInt d a b) w' ∧ (heapSort ltInt d a b).size = d.size := by
  refine ok_slices_heapSortOrdered_uint32 ?_
  unfold V_slices_heapSortOrdered_uint32
  have e1 : IntKind.wrap .i64 ((b : Int) - (a : Int)) = ((b - a : Nat) : Int) := by rw [wrap64 (by omega) (by omega)]; omega
  have e2 : IntKind.wrap .i64 (((b - a : Nat) : Int) - 1) = ((b - a - 1 : Nat) : Int) := by rw [wrap64 (by omega) (by omega)]; omega
  have e3 : Int.tdiv ((b - a - 1 : Nat) : Int) 2 = (((b - a - 1) / 2 : Nat) : Int) := rfl
  have e4 : IntKind.wrap .i64 (((b - a - 1) / 2 : Nat) : Int) = (((b - a - 1) / 2 : Nat) : Int) := wrap64 (by omega) (by omega)
  simp only [e1, e2, e3, e4]
  have hend : heapPop ltInt a (b - a) (heapBuild ltInt (b - a) a ((b - a - 1) / 2 + 1) d) = heapSort ltInt d a b := rfl
  refine ⟨by decide, fun t w' => ∃ (k : Nat) (d' : Array Int), t.1 = (k : Int) - 1 ∧ k ≤ 100000 ∧ d'.size = d.size ∧ SPost w g c d' w' ∧ heapBuild ltInt (b - a) a k d' = heapBuild ltInt (b - a) a ((b - a - 1) / 2 + 1) d, fun t _ => (t.1 + 1).toNat,
    ⟨(b - a - 1) / 2 + 1, d, by show (((b - a - 1) / 2 : Nat) : Int) = (((b - a - 1) / 2 + 1 : Nat) : Int) - 1; omega, by omega, rfl, ⟨h, Keep.refl _ _⟩, rfl⟩, ?_⟩
  rintro _ _ w1 ⟨k, d', rfl, hk, hsz, hp, he⟩
  refine bcase_mk (fun hge => ?_) (fun hge => ?_)
  · have hge : (k : Int) - 1 ≥ 0 := of_decide_eq_true hge
    obtain ⟨j, rfl⟩ : ∃ j, k = j + 1 := ⟨k - 1, by omega⟩
    have e5 : ((j + 1 : Nat) : Int) - 1 = ((j : Nat) : Int) := by omega
    have hs := s_siftDown hp.1 j (b - a) a (by omega) (by omega) (by omega)
    rw [hsz] at hs
    simp only [e5]
    refine hs.mono ?_
    rintro _ w2 ⟨rfl, hp2⟩
    have e6 : IntKind.wrap .i64 ((j : Int) - 1) = (j : Int) - 1 := wrap64 (by omega) (by omega)
    rw [e6]
    refine ⟨by first | exact rfl | exact trivial, ⟨j, _, rfl, by omega, by rw [siftDown_size, hsz], hp.trans hp2, by rw [← he]; rfl⟩, ?_⟩
    show (((j : Int) - 1) + 1).toNat < (((j : Nat) : Int) + 1).toNat
    omega
  · have hge : ¬ (k : Int) - 1 ≥ 0 := of_decide_eq_false hge
    have hk0 : k = 0 := by omega
    subst hk0
    have he : d' = heapBuild ltInt (b - a) a ((b - a - 1) / 2 + 1) d := he
    rw [← he] at hend
    refine ⟨fun t w' => ∃ (k : Nat) (d2 : Array Int), t.1 = (k : Int) - 1 ∧ k ≤ b - a ∧ d2.size = d.size ∧ SPost w g c d2 w' ∧ heapPop ltInt a k d2 = heapPop ltInt a (b - a) d', fun t _ => (t.1 + 1).toNat,
      ⟨b - a, d', by show ((b - a - 1 : Nat) : Int) = ((b - a : Nat) : Int) - 1; omega, Nat.le_refl _, hsz, hp, rfl⟩, ?_⟩
    rintro _ _ w2 ⟨k, d2, rfl, hk2, hsz2, hp2, he2⟩
    refine bcase_mk (fun hge => ?_) (fun hge => ?_)
    · have hge : (k : Int) - 1 ≥ 0 := of_decide_eq_true hge
      obtain ⟨j, hj⟩ : ∃ j, k = j + 1 := ⟨k - 1, by omega⟩
      have e5 : (k : Int) - 1 = ((j : Nat) : Int) := by omega
      have e6 : IntKind.wrap .i64 ((a : Int) + (j : Int)) = ((a + j : Nat) : Int) := by rw [wrap64 (by omega) (by omega)]; omega
      have e7 : IntKind.wrap .i64 ((j : Int) - 1) = (j : Int) - 1 := wrap64 (by omega) (by omega)
      simp only [e5, e6, e7]
      refine ⟨⟨by omega, by omega⟩, _, hp2.1.cell (i := a + j) (by omega), ⟨by omega, by omega⟩, _, hp2.1.cell (i := a) (by omega), ⟨by omega, by omega⟩, fun w3 hd => row_store (hp2.1.drew hd) (by omega) fun w4 h4 k4 => ⟨⟨by omega, by omega⟩, row_store h4 (by simp; omega) fun w5 h5 k5 => ?_⟩⟩
      have hp5 : SPost w g c (swp d2 a (a + j)) w5 := ⟨h5, ((hp2.drew hd).2.trans k4 fun _ _ h => h).trans k5 fun _ _ h => h⟩
      have hs := s_siftDown hp5.1 0 j a (by rw [swp_size]; omega) (by rw [swp_size]; omega) (by omega)
      rw [swp_size, hsz2] at hs
      refine hs.mono ?_
      rintro _ w6 ⟨rfl, hp6⟩
      refine ⟨rfl, ⟨j, _, rfl, by omega, by rw [siftDown_size, swp_size, hsz2], hp5.trans hp6, by rw [← he2, hj]; rfl⟩, ?_⟩
      show (((j : Int) - 1) + 1).toNat < (((j : Nat) : Int) + 1).toNat
      omega
    · have hge : ¬ (k : Int) - 1 ≥ 0 := of_decide_eq_false hge
      have hk0 : k = 0 := by omega
      subst hk0
      have he2 : d2 = heapPop ltInt a (b - a) d' := he2
      rw [hend] at he2
      subst he2
      exact ⟨by first | exact rfl | exact trivial, hp2, hsz2⟩
end

end Go.Proofs.Ytgepmlgkeljelaa.Vc
