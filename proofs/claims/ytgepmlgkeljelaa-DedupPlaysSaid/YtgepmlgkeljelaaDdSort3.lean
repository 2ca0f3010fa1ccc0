/- slices.Sort at []uint32: the pivot. -/
import Derived.Test.YtgepmlgkeljelaaDdSort2
namespace Go.Proofs.Ytgepmlgkeljelaa.Vc
open Go Go.Proofs Go.Sort

/-- A counter's block. -/
def Sw (w : World) (sb : Nat) : Prop := ∃ n : Int, w.heap[sb]? = some (.cells ⟨[.int .i64 n]⟩ T.«i64'»)

section
variable {w : World} {g c sb : Nat} {d : Array Int}

theorem Row.ne (h : Row w g c d) (hs : Sw w sb) : ¬ g = sb := fun e => by
  obtain ⟨cur, hc⟩ := Sl.type h (Blk.mk g 0)
  obtain ⟨n, hn⟩ := hs
  rw [e, hn] at hc
  cases hc

/-- What the choice of a pivot does to memory. -/
def CPost (w : World) (g c sb : Nat) (d : Array Int) (w' : World) : Prop := Row w' g c d ∧ Sw w' sb ∧ Keep (fun t => t = sb) w w'
theorem CPost.trans {u v : World} (h : CPost w g c sb d u) (k : CPost u g c sb d v) : CPost w g c sb d v := ⟨k.1, k.2.1, h.2.2.trans k.2.2 fun _ _ h => h⟩

theorem s_order2 (h : Row w g c d) (hs : Sw w sb) {a b : Nat} (ha : a < d.size) (hb : b < d.size) :
    Calls P F.«slices_order2Ordered_uint32» ⟨[.slice (some ⟨g, 0, none⟩) d.size c, .int .i64 (a : Nat), .int .i64 (b : Nat), .pointer (some ⟨sb, 0, none⟩)]⟩ w fun e w' =>
      (∃ x y : Nat, e = .returned (.tuple ⟨[.int .i64 (x : Nat), .int .i64 (y : Nat)]⟩) ∧ ((x = a ∧ y = b) ∨ (x = b ∧ y = a))) ∧ CPost w g c sb d w' := by
  refine ok_slices_order2Ordered_uint32 ⟨⟨by omega, by omega⟩, _, h.cell (i := b) hb, ⟨by omega, by omega⟩, _, h.cell (i := a) ha, fun w1 hd => (s_Less w1 _ _).mono ?_⟩
  rintro _ _ ⟨rfl, rfl⟩
  have h1 := h.drew hd
  obtain ⟨n, hn⟩ := hs
  have hn1 := hd.at_ hn
  refine ⟨_, rfl, bcase_mk (fun _ => ⟨n, cell_at0 hn1 rfl, store_step hn1 (by simp) fun w2 s2 => ⟨⟨b, a, rfl, .inr ⟨rfl, rfl⟩⟩, Sl.keep h1 s2.keep fun t ht e => ?_, ⟨_, s2.at_⟩, (Keep.drew _ hd).trans s2.keep fun _ _ h => h⟩⟩) (fun _ => ⟨⟨a, b, rfl, .inl ⟨rfl, rfl⟩⟩, h1, ⟨n, hn1⟩, Keep.drew _ hd⟩)⟩
  have e : t = sb := e
  exact h1.ne ⟨n, hn1⟩ (ht.eq ▸ e)

theorem s_median (h : Row w g c d) (hs : Sw w sb) {a b e : Nat} (ha : a < d.size) (hb : b < d.size) (he : e < d.size) :
    Calls P F.«slices_medianOrdered_uint32» ⟨[.slice (some ⟨g, 0, none⟩) d.size c, .int .i64 (a : Nat), .int .i64 (b : Nat), .int .i64 (e : Nat), .pointer (some ⟨sb, 0, none⟩)]⟩ w fun e' w' =>
      (∃ x : Nat, e' = .returned (.int .i64 (x : Nat)) ∧ (x = a ∨ x = b ∨ x = e)) ∧ CPost w g c sb d w' := by
  refine ok_slices_medianOrdered_uint32 ((s_order2 h hs ha hb).mono ?_)
  rintro _ w1 ⟨⟨x, y, rfl, hxy⟩, p1⟩
  refine ⟨_, _, rfl, (s_order2 p1.1 p1.2.1 (a := y) (b := e) (by omega) he).mono ?_⟩
  rintro _ w2 ⟨⟨x2, y2, rfl, hxy2⟩, p2⟩
  refine ⟨_, _, rfl, (s_order2 p2.1 p2.2.1 (a := x) (b := x2) (by omega) (by omega)).mono ?_⟩
  rintro _ w3 ⟨⟨x3, y3, rfl, hxy3⟩, p3⟩
  exact ⟨_, _, rfl, ⟨y3, rfl, by omega⟩, (p1.trans p2).trans p3⟩

theorem s_medianAdjacent (h : Row w g c d) (hs : Sw w sb) {a : Nat} (ha : 1 ≤ a) (hb : a + 1 < d.size) (hsm : d.size ≤ 100000) :
    Calls P F.«slices_medianAdjacentOrdered_uint32» ⟨[.slice (some ⟨g, 0, none⟩) d.size c, .int .i64 (a : Nat), .pointer (some ⟨sb, 0, none⟩)]⟩ w fun e' w' =>
      (∃ x : Nat, e' = .returned (.int .i64 (x : Nat)) ∧ a - 1 ≤ x ∧ x ≤ a + 1) ∧ CPost w g c sb d w' := by
  refine ok_slices_medianAdjacentOrdered_uint32 ?_
  unfold V_slices_medianAdjacentOrdered_uint32
  have e1 : IntKind.wrap .i64 ((a : Int) - 1) = ((a - 1 : Nat) : Int) := by rw [wrap64 (by omega) (by omega)]; omega
  have e2 : IntKind.wrap .i64 ((a : Int) + 1) = ((a + 1 : Nat) : Int) := by rw [wrap64 (by omega) (by omega)]; omega
  rw [e1, e2]
  refine (s_median h hs (a := a - 1) (b := a) (e := a + 1) (by omega) (by omega) hb).mono ?_
  rintro _ w1 ⟨⟨x, rfl, hx⟩, p1⟩
  exact ⟨_, rfl, ⟨x, rfl, by omega, by omega⟩, p1⟩

/-- A pivot within the part; a hint, whichever. -/
theorem s_choosePivot (h : Row w g c d) {a b : Nat} (hab : a < b) (hb : b ≤ d.size) (hsm : d.size ≤ 100000) :
    Calls P F.«slices_choosePivotOrdered_uint32» ⟨[.slice (some ⟨g, 0, none⟩) d.size c, .int .i64 (a : Nat), .int .i64 (b : Nat)]⟩ w fun e' w' =>
      (∃ (x : Nat) (hint : Int), e' = .returned (.tuple ⟨[.int .i64 (x : Nat), .int .i64 hint]⟩) ∧ a ≤ x ∧ x < b) ∧ Row w' g c d ∧ Keep NoB w w' := by
  refine ok_slices_choosePivotOrdered_uint32 ?_
  unfold V_slices_choosePivotOrdered_uint32
  have e1 : IntKind.wrap .i64 ((b : Int) - (a : Int)) = ((b - a : Nat) : Int) := by rw [wrap64 (by omega) (by omega)]; omega
  have e2 : IntKind.wrap .i64 (Int.tdiv ((b - a : Nat) : Int) 4) = (((b - a) / 4 : Nat) : Int) := wrap64 (n := (((b - a) / 4 : Nat) : Int)) (by omega) (by omega)
  have m1 : ∀ k : Nat, k ≤ 3 → IntKind.wrap .i64 ((((b - a) / 4 : Nat) : Int) * (k : Int)) = (((b - a) / 4 * k : Nat) : Int) := by
    intro k hk
    have : k = 0 ∨ k = 1 ∨ k = 2 ∨ k = 3 := by omega
    rcases this with rfl | rfl | rfl | rfl <;> (rw [wrap64 (by omega) (by omega)]; omega)
  have m2 : ∀ k : Nat, k ≤ 3 → IntKind.wrap .i64 ((a : Int) + (((b - a) / 4 * k : Nat) : Int)) = ((a + (b - a) / 4 * k : Nat) : Int) := by
    intro k hk
    have : k = 0 ∨ k = 1 ∨ k = 2 ∨ k = 3 := by omega
    rcases this with rfl | rfl | rfl | rfl <;> (rw [wrap64 (by omega) (by omega)]; omega)
  have q1 : IntKind.wrap .i64 ((((b - a) / 4 : Nat) : Int) * 1) = (((b - a) / 4 * 1 : Nat) : Int) := m1 1 (by omega)
  have q2 : IntKind.wrap .i64 ((((b - a) / 4 : Nat) : Int) * 2) = (((b - a) / 4 * 2 : Nat) : Int) := m1 2 (by omega)
  have q3 : IntKind.wrap .i64 ((((b - a) / 4 : Nat) : Int) * 3) = (((b - a) / 4 * 3 : Nat) : Int) := m1 3 (by omega)
  have r1 := m2 1 (by omega)
  have r2 := m2 2 (by omega)
  have r3 := m2 3 (by omega)
  simp only [e1, e2, q1, q2, q3, r1, r2, r3]
  refine alloc_step fun u hu => ⟨by decide, by decide, by decide, ?_⟩
  have h0 : Row u g c d := Sl.keep h hu.keep fun _ _ h => h
  have hs0 : Sw u w.heap.size := ⟨_, hu.at_⟩
  refine ⟨fun t w' => ∃ x : Nat, t.1 = (x : Int) ∧ a ≤ x ∧ x < b ∧ CPost u g c w.heap.size d w', bcase_mk (fun h8 => bcase_mk (fun h50 => ?_) (fun h50 => ?_)) (fun h8 => ⟨_, rfl, by omega, by omega, h0, hs0, Keep.refl _ _⟩), ?_⟩
  · have h50 : ((b - a : Nat) : Int) ≥ 50 := of_decide_eq_true h50
    refine (s_medianAdjacent h0 hs0 (a := a + (b - a) / 4 * 1) (by omega) (by omega) hsm).mono ?_
    rintro _ w1 ⟨⟨x1, rfl, hx1⟩, p1⟩
    refine ⟨_, rfl, (s_medianAdjacent p1.1 p1.2.1 (a := a + (b - a) / 4 * 2) (by omega) (by omega) hsm).mono ?_⟩
    rintro _ w2 ⟨⟨x2, rfl, hx2⟩, p2⟩
    refine ⟨_, rfl, (s_medianAdjacent p2.1 p2.2.1 (a := a + (b - a) / 4 * 3) (by omega) (by omega) hsm).mono ?_⟩
    rintro _ w3 ⟨⟨x3, rfl, hx3⟩, p3⟩
    refine ⟨_, rfl, (s_median p3.1 p3.2.1 (a := x1) (b := x2) (e := x3) (by omega) (by omega) (by omega)).mono ?_⟩
    rintro _ w4 ⟨⟨x4, rfl, hx4⟩, p4⟩
    exact ⟨_, rfl, x4, rfl, by omega, by omega, ((p1.trans p2).trans p3).trans p4⟩
  · have h8 : ((b - a : Nat) : Int) ≥ 8 := of_decide_eq_true h8
    refine (s_median h0 hs0 (a := a + (b - a) / 4 * 1) (b := a + (b - a) / 4 * 2) (e := a + (b - a) / 4 * 3) (by omega) (by omega) (by omega)).mono ?_
    rintro _ w4 ⟨⟨x4, rfl, hx4⟩, p4⟩
    exact ⟨_, rfl, x4, rfl, by omega, by omega, p4⟩
  · rintro _ _ w1 ⟨x, rfl, hx1, hx2, hr, ⟨n, hn⟩, hk⟩
    have hk' : Keep NoB w w1 := hu.keep.trans hk fun t ht e => by have : t = w.heap.size := e; omega
    exact ⟨n, cell_at0 hn rfl, bcase_mk (fun _ => ⟨⟨x, _, rfl, hx1, hx2⟩, hr, hk'⟩) (fun _ => bcase_mk (fun _ => ⟨⟨x, _, rfl, hx1, hx2⟩, hr, hk'⟩) (fun _ => ⟨⟨x, _, rfl, hx1, hx2⟩, hr, hk'⟩))⟩
/-- The random number's block. -/
def Sx (w : World) (sb : Nat) : Prop := ∃ n : Int, w.heap[sb]? = some (.cells ⟨[.int .u64 n]⟩ T.«slices_xorshift»)

theorem s_xor (hs : Sx w sb) : Calls P F.«slices_xorshift_Next» ⟨[.pointer (some ⟨sb, 0, none⟩)]⟩ w fun e w' => (∃ n : Int, e = .returned (.int .u64 n)) ∧ Sx w' sb ∧ Keep (fun t => t = sb) w w' := by
  obtain ⟨n, hn⟩ := hs
  refine ok_slices_xorshift_Next ⟨n, cell_at0 hn rfl, n, cell_at0 hn rfl, by decide, fun w1 d1 => store_step (d1.at_ hn) (by simp) fun w2 s2 => ⟨_, cell_at0 s2.at_ rfl, _, cell_at0 s2.at_ rfl, by decide, fun w3 d3 => store_step (d3.at_ s2.at_) (by simp) fun w4 s4 => ⟨_, cell_at0 s4.at_ rfl, _, cell_at0 s4.at_ rfl, by decide, fun w5 d5 => store_step (d5.at_ s4.at_) (by simp) fun w6 s6 => ⟨_, cell_at0 s6.at_ rfl, ⟨_, rfl⟩, ⟨_, s6.at_⟩, ?_⟩⟩⟩⟩
  exact (((((Keep.drew _ d1).trans s2.keep fun _ _ h => h).trans (Keep.drew _ d3) fun _ _ h => h).trans s4.keep fun _ _ h => h).trans (Keep.drew _ d5) fun _ _ h => h).trans s6.keep fun _ _ h => h
end

end Go.Proofs.Ytgepmlgkeljelaa.Vc
