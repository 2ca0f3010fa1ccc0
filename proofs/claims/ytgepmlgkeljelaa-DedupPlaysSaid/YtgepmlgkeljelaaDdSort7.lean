/- slices.Sort at []uint32: pdqsort, Sort. -/
import Derived.Test.YtgepmlgkeljelaaDdSort6
import Derived.Test.YtgepmlgkeljelaaDdSeq
namespace Go.Proofs.Ytgepmlgkeljelaa.Vc
open Go Go.Proofs Go.Sort

theorem lt_false {x y : Int} : ltInt x y = false ↔ ¬ x < y := by simp [ltInt]
theorem lt_true {x y : Int} : ltInt x y = true ↔ x < y := by simp [ltInt]

theorem below_perm {a b : Nat} {d d' : Array Int} (hb : b ≤ d.size) (h : Sort.Below ltInt a b d) (hp : PermIn a b d d') : Sort.Below ltInt a b d' := by
  rcases h with h | h
  · exact .inl h
  · by_cases ha : a = 0
    · exact .inl ha
    · right
      have e : d'[a - 1]! = d[a - 1]! := hp.2.1 (a - 1) (.inl (by omega))
      rw [e]
      exact permIn_all d d' a b (fun x => ltInt x d[a - 1]! = false) hb hp h

/-- Two sorted parts, an element between them. -/
theorem join {a m b : Nat} {d : Array Int} (hL : ∀ i, a ≤ i → i < m → d[i]! < d[m]!) (hR : ∀ i, m < i → i < b → ¬ d[i]! < d[m]!) (s1 : SortedIn ltInt a m d) (s2 : SortedIn ltInt (m + 1) b d) : SortedIn ltInt a b d := by
  intro i j hi hij hj
  rw [lt_false]
  by_cases h1 : j < m
  · have := s1 i j hi hij h1; rw [lt_false] at this; exact this
  · by_cases h2 : m < i
    · have := s2 i j (by omega) hij hj; rw [lt_false] at this; exact this
    · by_cases h3 : j = m
      · subst h3
        have := hL i hi hij; omega
      · have hj' := hR j (by omega) hj
        by_cases h4 : i = m
        · subst h4; exact hj'
        · have := hL i hi (by omega); omega

section
variable {g c : Nat}

theorem lt_all {d : Array Int} {a b : Nat} {x : Int} (h : ∀ i, a ≤ i → i < b → ltInt x d[i]! = true) : ∀ i, a ≤ i → i < b → x < d[i]! := fun i h1 h2 => lt_true.1 (h i h1 h2)

/-- What the loop keeps: if the rest is sorted, all is. -/
structure PInv (a b : Nat) (d : Array Int) (a' b' : Nat) (d' : Array Int) : Prop where
  ha : a ≤ a'
  hab : a' ≤ b'
  hb : b' ≤ b
  perm : PermIn a b d d'
  below : Sort.Below ltInt a' b' d'
  fin : ∀ d'', PermIn a' b' d' d'' → SortedIn ltInt a' b' d'' → SortedIn ltInt a b d''

theorem PInv.step {a b a' b' : Nat} {d d' d2 : Array Int} (hs : b ≤ d.size) (h : PInv a b d a' b' d') (hp : PermIn a' b' d' d2) : PInv a b d a' b' d2 := by
  have hsz := h.perm.1
  have := h.hb
  exact ⟨h.ha, h.hab, h.hb, permIn_trans _ _ _ _ _ h.perm (permIn_mono _ _ _ _ _ _ h.ha h.hb (by omega) hp), below_perm (by omega) h.below hp, fun d'' h1 h2 => h.fin d'' (permIn_trans _ _ _ _ _ hp h1) h2⟩

theorem PInv.equal {a b a' b' m p : Nat} {d d' d2 : Array Int} (hs : b ≤ d.size) (h : PInv a b d a' b' d') (h1 : a' < m) (h2 : m ≤ b') (hp : PermIn a' b' d' d2) (h3 : ∀ i, a' ≤ i → i < m → ltInt d'[p]! d2[i]! = false) (h4 : ∀ i, m ≤ i → i < b' → ltInt d'[p]! d2[i]! = true)
    (h5 : ∀ i, a' ≤ i → i < b' → ltInt d2[i]! d'[p]! = false) : PInv a b d m b' d2 := by
  have hsz := h.perm.1
  have hsz2 := hp.1
  have hb := h.hb
  have ha := h.ha
  have eq : ∀ i, a' ≤ i → i < m → d2[i]! = d'[p]! := fun i i1 i2 => by
    have e1 := h3 i i1 i2
    have e2 := h5 i i1 (by omega)
    rw [lt_false] at e1 e2
    omega
  refine ⟨by omega, h2, hb, (h.step hs hp).perm, .inr fun i i1 i2 => ?_, fun d'' k1 k2 => h.fin d'' (permIn_trans _ _ _ _ _ hp (permIn_mono _ _ _ _ _ _ (by omega) (Nat.le_refl _) (by omega) k1)) ?_⟩
  · rw [eq (m - 1) (by omega) (by omega)]
    exact h5 i (by omega) i2
  · have hR : ∀ i, m ≤ i → i < b' → d'[p]! < d''[i]! := by
      have := permIn_all d2 d'' m b' (fun x => d'[p]! < x) (by omega) k1 (fun i i1 i2 => lt_true.1 (h4 i i1 i2))
      exact this
    have hL : ∀ i, a' ≤ i → i < m → d''[i]! = d'[p]! := fun i i1 i2 => by rw [k1.2.1 i (.inl i2)]; exact eq i i1 i2
    intro i j i1 ij j1
    rw [lt_false]
    by_cases hj : j < m
    · rw [hL j (by omega) hj, hL i i1 (by omega)]; omega
    · by_cases hi : i < m
      · rw [hL i i1 hi]; have := hR j (by omega) j1; omega
      · have := k2 i j (by omega) ij j1; rw [lt_false] at this; exact this

theorem PInv.left {a b a' b' m : Nat} {d d' d2 d3 : Array Int} (hs : b ≤ d.size) (h : PInv a b d a' b' d') (h1 : a' ≤ m) (h2 : m < b') (hp : PermIn a' b' d' d2)
    (hL : ∀ i, a' ≤ i → i < m → ltInt d2[i]! d2[m]! = true) (hR : ∀ i, m < i → i < b' → ltInt d2[i]! d2[m]! = false) (hq : PermIn a' m d2 d3) (hsd : SortedIn ltInt a' m d3) : PInv a b d (m + 1) b' d3 := by
  have hsz := h.perm.1
  have hsz2 := hp.1
  have hsz3 := hq.1
  have hb := h.hb
  have ha := h.ha
  have hm : d3[m]! = d2[m]! := hq.2.1 m (.inr (Nat.le_refl _))
  have hp3 : PermIn a' b' d' d3 := permIn_trans _ _ _ _ _ hp (permIn_mono _ _ _ _ _ _ (Nat.le_refl _) (by omega) (by omega) hq)
  have hR3 : ∀ i, m < i → i < b' → ltInt d3[i]! d3[m]! = false := fun i i1 i2 => by rw [hm, hq.2.1 i (.inr (by omega))]; exact hR i i1 i2
  have hL3 : ∀ i, a' ≤ i → i < m → d3[i]! < d3[m]! := by
    rw [hm]
    exact permIn_all d2 d3 a' m (fun x => x < d2[m]!) (by omega) hq (fun i i1 i2 => lt_true.1 (hL i i1 i2))
  refine ⟨by omega, by omega, hb, (h.step hs hp3).perm, .inr fun i i1 i2 => hR3 i (by omega) i2, fun d'' k1 k2 => h.fin d'' (permIn_trans _ _ _ _ _ hp3 (permIn_mono _ _ _ _ _ _ (by omega) (Nat.le_refl _) (by omega) k1)) ?_⟩
  have em : d''[m]! = d3[m]! := k1.2.1 m (.inl (by omega))
  refine join (m := m) (fun i i1 i2 => ?_) (fun i i1 i2 => ?_) (fun i j i1 ij j1 => ?_) k2
  · rw [em, k1.2.1 i (.inl (by omega))]; exact hL3 i i1 i2
  · rw [em]
    exact permIn_all d3 d'' (m + 1) b' (fun x => ¬ x < d3[m]!) (by omega) k1 (fun i i1 i2 => lt_false.1 (hR3 i (by omega) i2)) i i1 i2
  · rw [k1.2.1 i (.inl (by omega)), k1.2.1 j (.inl (by omega))]; exact hsd i j i1 ij j1

theorem PInv.right {a b a' b' m : Nat} {d d' d2 d3 : Array Int} (hs : b ≤ d.size) (h : PInv a b d a' b' d') (h1 : a' ≤ m) (h2 : m < b') (hp : PermIn a' b' d' d2)
    (hL : ∀ i, a' ≤ i → i < m → ltInt d2[i]! d2[m]! = true) (hR : ∀ i, m < i → i < b' → ltInt d2[i]! d2[m]! = false) (hq : PermIn (m + 1) b' d2 d3) (hsd : SortedIn ltInt (m + 1) b' d3) : PInv a b d a' m d3 := by
  have hsz := h.perm.1
  have hsz2 := hp.1
  have hsz3 := hq.1
  have hb := h.hb
  have ha := h.ha
  have hm : d3[m]! = d2[m]! := hq.2.1 m (.inl (by omega))
  have hp3 : PermIn a' b' d' d3 := permIn_trans _ _ _ _ _ hp (permIn_mono _ _ _ _ _ _ (by omega) (Nat.le_refl _) (by omega) hq)
  have hL3 : ∀ i, a' ≤ i → i < m → d3[i]! < d3[m]! := fun i i1 i2 => by rw [hm, hq.2.1 i (.inl (by omega))]; exact lt_true.1 (hL i i1 i2)
  have hR3 : ∀ i, m + 1 ≤ i → i < b' → ¬ d3[i]! < d3[m]! := by
    rw [hm]
    exact permIn_all d2 d3 (m + 1) b' (fun x => ¬ x < d2[m]!) (by omega) hq (fun i i1 i2 => lt_false.1 (hR i (by omega) i2))
  refine ⟨ha, h1, by omega, (h.step hs hp3).perm, ?_, fun d'' k1 k2 => h.fin d'' (permIn_trans _ _ _ _ _ hp3 (permIn_mono _ _ _ _ _ _ (Nat.le_refl _) (by omega) (by omega) k1)) ?_⟩
  · rcases (h.step hs hp3).below with h0 | h0
    · exact .inl h0
    · exact .inr fun i i1 i2 => h0 i i1 (by omega)
  · have em : d''[m]! = d3[m]! := k1.2.1 m (.inr (Nat.le_refl _))
    refine join (m := m) (fun i i1 i2 => ?_) (fun i i1 i2 => ?_) k2 (fun i j i1 ij j1 => ?_)
    · rw [em]
      exact permIn_all d3 d'' a' m (fun x => x < d3[m]!) (by omega) k1 hL3 i i1 i2
    · rw [em, k1.2.1 i (.inr (by omega))]; exact hR3 i (by omega) i2
    · rw [k1.2.1 i (.inr (by omega)), k1.2.1 j (.inr (by omega))]; exact hsd i j i1 ij j1

theorem s_pdq : ∀ (n : Nat) (w : World) (d : Array Int) (a b : Nat) (limit : Int), b - a < n → Row w g c d → a ≤ b → b ≤ d.size → d.size ≤ 100000 → Sort.Below ltInt a b d →
    Calls P F.«slices_pdqsortOrdered_uint32» ⟨[.slice (some ⟨g, 0, none⟩) d.size c, .int .i64 (a : Nat), .int .i64 (b : Nat), .int .i64 limit]⟩ w fun e w' => e = .returned (.tuple ⟨[]⟩) ∧ ∃ d', PermIn a b d d' ∧ SortedIn ltInt a b d' ∧ SPost w g c d' w' := by
  intro n
  induction n with
  | zero => intro w d a b limit hn; omega
  | succ n ih =>
    intro w d a b limit hn h hab hb hsm hbl
    refine ok_slices_pdqsortOrdered_uint32 ?_
    refine ⟨fun t w' => ∃ (a' b' : Nat) (d' : Array Int), t.1 = (a' : Int) ∧ t.2.1 = (b' : Int) ∧ PInv a b d a' b' d' ∧ SPost w g c d' w', fun t _ => (t.2.1 - t.1).toNat,
      ⟨a, b, d, rfl, rfl, ⟨Nat.le_refl _, hab, Nat.le_refl _, permIn_refl _ _ _, hbl, fun _ _ h => h⟩, h, Keep.refl _ _⟩, ?_⟩
    rintro _ _ _ limit' wb wp w1 ⟨a', b', d', rfl, rfl, hI, hp⟩
    have hsz := hI.perm.1
    have hab' := hI.hab
    have hb' := hI.hb
    have ha' := hI.ha
    have e1 : IntKind.wrap .i64 ((b' : Int) - (a' : Int)) = ((b' - a' : Nat) : Int) := by rw [wrap64 (by omega) (by omega)]; omega
    simp only [e1]
    have hbs : b' ≤ d'.size := by omega
    have hsm' : d'.size ≤ 100000 := by omega
    rw [← hsz]
    refine bcase_mk (fun h12 => (s_insertionSort hp.1 hab' hbs hsm').mono ?_) (fun h12 => ?_)
    · rintro _ w2 ⟨rfl, p2, _⟩
      obtain ⟨q1, q2⟩ := insertionSort_holds swo_ltInt d' a' b' hab' hbs
      exact ⟨by first | exact rfl | exact trivial, by first | exact rfl | exact trivial, _, (hI.step hb q1).perm, hI.fin _ q1 q2, hp.trans p2⟩
    have h12 : ¬ ((b' - a' : Nat) : Int) ≤ 12 := of_decide_eq_false h12
    refine bcase_mk (fun h0 => (s_heapSort hp.1 (by omega) hbs hsm').mono ?_) (fun h0 => ?_)
    · rintro _ w2 ⟨rfl, p2, _⟩
      obtain ⟨q1, q2⟩ := heapSort_holds swo_ltInt d' a' b' hab' hbs
      exact ⟨by first | exact rfl | exact trivial, by first | exact rfl | exact trivial, _, (hI.step hb q1).perm, hI.fin _ q1 q2, hp.trans p2⟩
    refine ⟨fun _ w' => ∃ d2, PermIn a' b' d' d2 ∧ SPost w g c d2 w', bcase_mk (fun _ => (s_breakPatterns hp.1 hab' hbs hsm').mono ?_) (fun _ => ⟨d', permIn_refl _ _ _, hp⟩), ?_⟩
    · rintro _ w2 ⟨rfl, d2, q1, p2⟩
      exact ⟨by first | exact rfl | exact trivial, d2, q1, hp.trans p2⟩
    rintro _ lim2 w2 ⟨d2, q2, p2⟩
    have z2 := q2.1
    rw [← z2] at hbs hsm' ⊢
    refine (s_choosePivot p2.1 (by omega) hbs hsm').mono ?_
    rintro _ w3 ⟨⟨x, hint, rfl, hx1, hx2⟩, r3, k3⟩
    have p3 : SPost w g c d2 w3 := ⟨r3, p2.2.trans k3 fun _ _ h => h.elim⟩
    refine ⟨_, _, rfl, fun t w' => ∃ (p : Nat) (d3 : Array Int), t.1 = (p : Int) ∧ a' ≤ p ∧ p < b' ∧ PermIn a' b' d' d3 ∧ SPost w g c d3 w', bcase_mk (fun _ => (s_reverseRange p3.1 (by omega) hbs).mono ?_) (fun _ => ⟨x, d2, rfl, hx1, hx2, q2, p3⟩), ?_⟩
    · rintro _ w4 ⟨rfl, p4⟩
      have e2 : IntKind.wrap .i64 ((b' : Int) - 1) = ((b' - 1 : Nat) : Int) := by rw [wrap64 (by omega) (by omega)]; omega
      have e3 : IntKind.wrap .i64 ((x : Int) - (a' : Int)) = ((x - a' : Nat) : Int) := by rw [wrap64 (by omega) (by omega)]; omega
      have e4 : IntKind.wrap .i64 (((b' - 1 : Nat) : Int) - ((x - a' : Nat) : Int)) = ((b' - 1 - (x - a') : Nat) : Int) := by rw [wrap64 (by omega) (by omega)]; omega
      simp only [e2, e3, e4]
      exact ⟨by first | exact rfl | exact trivial, _, _, rfl, by omega, by omega, permIn_trans _ _ _ _ _ q2 (reverseRange_holds d2 a' b' hab' hbs), p3.trans p4⟩
    clear p2 p3 r3 k3 q2 hx1 hx2
    rintro _ _ hint2 w4 ⟨p, d3, rfl, hp1, hp2, q3, p3⟩
    refine ⟨fun _ w' => ∃ d4, PermIn a' b' d' d4 ∧ SPost w g c d4 w', ⟨fun _ w' => w4 = w', bcase_mk (fun _ => bcase_mk (fun _ => by first | exact rfl | exact trivial) (fun _ => by first | exact rfl | exact trivial)) (fun _ => by first | exact rfl | exact trivial), ?_⟩, ?_⟩
    · have z3 := q3.1
      rintro _ b68 _ rfl
      rw [z2, ← z3]
      refine bcase_mk (fun _ => (s_partialInsertionSort p3.1 (by omega) (by omega) (by omega)).mono ?_) (fun _ => ⟨d3, q3, p3⟩)
      rintro _ w5 ⟨rfl, p5⟩
      obtain ⟨k1, k2⟩ := partialInsertionSort_holds swo_ltInt d3 a' b' (by omega) (by omega) (hI.step hb q3).below
      have k3 := permIn_trans _ _ _ _ _ q3 k1
      exact ⟨_, rfl, bcase_mk (fun hb5 => ⟨by first | exact rfl | exact trivial, _, (hI.step hb k3).perm, hI.fin _ k3 (k2 hb5), p3.trans p5⟩) (fun _ => ⟨_, k3, p3.trans p5⟩)⟩
    clear p3 q3 hint hint2
    rintro _ w5 ⟨d4, q4, p4⟩
    have z4 := q4.1
    have hI4 := hI.step hb q4
    rw [z2, ← z4]
    clear hp hI q4 d3 w4 w3
    refine ⟨fun t w' => t.1 = (a' : Int) ∧ SPost w g c d4 w', bcase_mk (fun h0 => ?_) (fun _ w6 hd => ⟨rfl, p4.drew hd⟩), ?_⟩
    · have h0 : (a' : Int) > 0 := of_decide_eq_true h0
      have e2 : IntKind.wrap .i64 ((a' : Int) - 1) = ((a' - 1 : Nat) : Int) := by rw [wrap64 (by omega) (by omega)]; omega
      simp only [e2]
      refine ⟨⟨by omega, by omega⟩, _, p4.1.cell (i := a' - 1) (by omega), ⟨by omega, by omega⟩, _, p4.1.cell (i := p) (by omega), fun w6 hd => (s_Less w6 _ _).mono ?_⟩
      rintro _ _ ⟨rfl, rfl⟩
      have p6 := p4.drew hd
      refine ⟨_, rfl, bcase_mk (fun hl => (s_partitionEqual p6.1 (by omega) (by omega) (by omega) (by omega)).mono ?_) (fun _ => ⟨by first | exact rfl | exact trivial, p6⟩)⟩
      have hl : ltInt d4[a' - 1]! d4[p]! = false := by simpa using hl
      rw [lt_false] at hl
      have hge : ∀ i, a' ≤ i → i < b' → ltInt d4[i]! d4[p]! = false := fun i i1 i2 => by
        rcases hI4.below with h | h
        · omega
        · have := h i i1 i2
          rw [lt_false] at this ⊢
          omega
      obtain ⟨k1, k2, k3, k4, k5⟩ := partitionEqual_holds ltInt swo_ltInt d4 a' b' p hp1 hp2 (by omega) hge
      rintro _ w7 ⟨rfl, p7, _⟩
      have hI7 := hI4.equal hb k1 k2 k3 k4 k5 (permIn_all _ _ _ _ (fun x => ltInt x d4[p]! = false) (by omega) k3 hge)
      refine ⟨_, rfl, ⟨_, _, _, rfl, rfl, hI7, p6.trans p7⟩, ?_⟩
      show ((b' : Int) - _).toNat < ((b' : Int) - (a' : Int)).toNat
      omega
    rintro _ _ w6 ⟨rfl, p6⟩
    refine (s_partition p6.1 (a := a') (b := b') (pivot := p) (by omega) (by omega) (by omega) (by omega)).mono ?_
    obtain ⟨k1, k2, k3, k4, k5⟩ := partition_holds ltInt swo_ltInt d4 a' b' p hp1 hp2 (by omega)
    rintro _ w7 ⟨rfl, p7, z7⟩
    generalize (partition ltInt d4 a' b' p).1 = m at k1 k2 k4 k5 ⊢
    generalize (partition ltInt d4 a' b' p).2.2 = d5 at k3 k4 k5 p7 z7
    have p7 := p6.trans p7
    have e3 : IntKind.wrap .i64 ((m : Int) + 1) = ((m + 1 : Nat) : Int) := by rw [wrap64 (by omega) (by omega)]; omega
    have bl5 := (hI4.step hb k3).below
    rw [← z7]
    refine ⟨_, _, rfl, by decide, ?_⟩
    simp only [e3]
    refine bcase_mk (fun _ => (ih w7 d5 a' m _ (by omega) p7.1 k1 (by omega) (by omega) ?_).mono ?_) (fun _ => (ih w7 d5 (m + 1) b' _ (by omega) p7.1 (by omega) (by omega) (by omega) ?_).mono ?_)
    · rcases bl5 with h | h
      · exact .inl h
      · exact .inr fun i i1 i2 => h i i1 (by omega)
    · rintro _ w8 ⟨rfl, d6, j1, j2, p8⟩
      refine ⟨rfl, ⟨_, _, d6, rfl, rfl, hI4.left hb k1 k2 k3 k4 k5 j1 j2, p7.trans p8⟩, ?_⟩
      show ((b' : Int) - ((m + 1 : Nat) : Int)).toNat < ((b' : Int) - (a' : Int)).toNat
      omega
    · exact .inr fun i i1 i2 => k5 i (by omega) i2
    · rintro _ w8 ⟨rfl, d6, j1, j2, p8⟩
      refine ⟨rfl, ⟨_, _, d6, rfl, rfl, hI4.right hb k1 k2 k3 k4 k5 j1 j2, p7.trans p8⟩, ?_⟩
      show ((m : Int) - (a' : Int)).toNat < ((b' : Int) - (a' : Int)).toNat
      omega
end

theorem s_insertion_nil (w : World) (a : Option Addr) (c : Nat) : Calls P F.«slices_insertionSortOrdered_uint32» ⟨[.slice a 0 c, .int .i64 0, .int .i64 0]⟩ w fun e w' => e = .returned (.tuple ⟨[]⟩) ∧ w = w' := by
  refine ok_slices_insertionSortOrdered_uint32 ?_
  refine ⟨fun t w' => t.1 = 1 ∧ w = w', fun _ _ => 0, ⟨rfl, rfl⟩, ?_⟩
  rintro _ _ _ ⟨rfl, rfl⟩
  exact bcase_mk (fun hb => by cases hb) (fun _ => ⟨rfl, rfl⟩)

theorem s_pdq_nil (w : World) (a : Option Addr) (c : Nat) (limit : Int) : Calls P F.«slices_pdqsortOrdered_uint32» ⟨[.slice a 0 c, .int .i64 0, .int .i64 0, .int .i64 limit]⟩ w fun e w' => e = .returned (.tuple ⟨[]⟩) ∧ w = w' := by
  refine ok_slices_pdqsortOrdered_uint32 ?_
  refine ⟨fun t w' => t.1 = 0 ∧ t.2.1 = 0 ∧ w = w', fun _ _ => 0, ⟨rfl, rfl, rfl⟩, ?_⟩
  rintro _ _ _ limit' wb wp _ ⟨rfl, rfl, rfl⟩
  refine bcase_mk (fun _ => (s_insertion_nil w a c).mono ?_) (fun hb => by cases hb)
  rintro _ _ ⟨rfl, rfl⟩
  exact ⟨rfl, rfl, rfl⟩

theorem sortOk : SortOk := by
  intro w a c l h hlen
  refine ok_slices_Sort_sl_uint32_uint32 ?_
  unfold V_slices_Sort_sl_uint32_uint32
  rw [wrapU64 (by omega) (by omega)]
  refine (s_Len w hlen).mono ?_
  rintro _ _ ⟨⟨n, rfl, _⟩, rfl⟩
  refine ⟨_, rfl, ?_⟩
  rcases Sl.cases' h with ⟨rfl, h1, _⟩ | ⟨g, cur, rfl, _⟩
  · have : l = [] := List.eq_nil_of_length_eq_zero h1
    subst this
    refine (s_pdq_nil w none c _).mono ?_
    rintro _ _ ⟨rfl, rfl⟩
    exact ⟨rfl, rfl, [], List.Perm.refl _, List.Pairwise.nil, h, Keep.refl _ _⟩
  · have hr : Row w g c l.toArray := by unfold Row; simpa using h
    refine (s_pdq (l.length + 1) w l.toArray 0 l.length n (by omega) hr (Nat.zero_le _) (by simp) (by simpa using hlen) (.inl rfl)).mono ?_
    rintro _ w1 ⟨rfl, d', hp, hs, hr1, k1⟩
    have hsz : d'.size = l.length := by simpa using hp.1
    refine ⟨rfl, rfl, d'.toList, ?_, ?_, hr1, k1.mono fun g' _ e => by rw [show g' = g from e]; exact Blk.mk _ _⟩
    · have := hp.2.2
      have e1 : d'.toList.take l.length = d'.toList := List.take_of_length_le (by simp; omega)
      have := this
      simp only [Array.toList_extract, List.extract_eq_take_drop, List.drop_zero, Nat.sub_zero] at this
      rw [e1] at this
      simpa using this
    · rw [List.pairwise_iff_getElem]
      intro i j hi hj hij
      have := hs i j (Nat.zero_le _) hij (by simpa [hsz] using hj)
      rw [lt_false] at this
      have e1 : d'[i]! = d'.toList[i] := by simp at hi; simp [hi]
      have e2 : d'[j]! = d'.toList[j] := by simp at hj; simp [hj]
      omega

end Go.Proofs.Ytgepmlgkeljelaa.Vc
