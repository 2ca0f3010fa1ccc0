/- slices.Sort at []uint32: breakPatterns. -/
import Derived.Test.YtgepmlgkeljelaaDdSort4
namespace Go.Proofs.Ytgepmlgkeljelaa.Vc
open Go Go.Proofs Go.Sort

section
variable {w : World} {g c : Nat} {d : Array Int}

theorem set1New {w u v : World} {o o' : Obj} (h : New w o u) (k : Set1 u w.heap.size o' v) : New w o' v :=
  ⟨h.keep.trans k.keep fun t ht e => by have : t = w.heap.size := e; omega, by rw [k.size, h.size], k.at_⟩

theorem s_breakPatterns (h : Row w g c d) {a b : Nat} (hab : a ≤ b) (hb : b ≤ d.size) (hsm : d.size ≤ 100000) :
    Calls P F.«slices_breakPatternsOrdered_uint32» ⟨[.slice (some ⟨g, 0, none⟩) d.size c, .int .i64 (a : Nat), .int .i64 (b : Nat)]⟩ w fun e w' => e = .returned (.tuple ⟨[]⟩) ∧ ∃ d', PermIn a b d d' ∧ SPost w g c d' w' := by
  refine ok_slices_breakPatternsOrdered_uint32 ?_
  unfold V_slices_breakPatternsOrdered_uint32
  have e1 : IntKind.wrap .i64 ((b : Int) - (a : Int)) = ((b - a : Nat) : Int) := by rw [wrap64 (by omega) (by omega)]; omega
  have e2 : IntKind.wrap .i64 (Int.tdiv ((b - a : Nat) : Int) 4) = (((b - a) / 4 : Nat) : Int) := wrap64 (n := (((b - a) / 4 : Nat) : Int)) (by omega) (by omega)
  have e3 : IntKind.wrap .i64 ((((b - a) / 4 : Nat) : Int) * 2) = (((b - a) / 4 * 2 : Nat) : Int) := by rw [wrap64 (by omega) (by omega)]; omega
  have e4 : IntKind.wrap .i64 ((a : Int) + (((b - a) / 4 * 2 : Nat) : Int)) = ((a + (b - a) / 4 * 2 : Nat) : Int) := by rw [wrap64 (by omega) (by omega)]; omega
  have e5 : IntKind.wrap .u64 ((b - a : Nat) : Int) = ((b - a : Nat) : Int) := wrapU64 (by omega) (by omega)
  simp only [e1, e2, e3, e4, e5]
  refine bcase_mk (fun h8 => ?_) (fun h8 => ⟨by first | exact rfl | exact trivial, d, permIn_refl d a b, h, Keep.refl _ _⟩)
  have h8 : ((b - a : Nat) : Int) ≥ 8 := of_decide_eq_true h8
  refine alloc_step fun u0 n0 => store_step n0.at_ (by simp) fun u1 s1 => ?_
  have n1 := set1New n0 s1
  refine (s_nextPow u1 (x := b - a) (by omega) (by omega)).mono ?_
  rintro _ _ ⟨⟨m, rfl, hm1, hm2⟩, rfl⟩
  have e6 : IntKind.wrap .i64 (((a + (b - a) / 4 * 2 : Nat) : Int) - 1) = ((a + (b - a) / 4 * 2 - 1 : Nat) : Int) := by rw [wrap64 (by omega) (by omega)]; omega
  have e7 : IntKind.wrap .i64 (((a + (b - a) / 4 * 2 : Nat) : Int) + 1) = ((a + (b - a) / 4 * 2 + 1 : Nat) : Int) := by rw [wrap64 (by omega) (by omega)]; omega
  have e8 : IntKind.wrap .u64 ((m : Int) - 1) = ((m - 1 : Nat) : Int) := by rw [wrapU64 (by omega) (by omega)]; omega
  simp only [e6, e7, e8]
  have hg : ¬ g = w.heap.size := fun e => by have := Sl.lt h (Blk.mk g 0); omega
  have r1 : Row u1 g c d := Sl.keep h n1.keep fun _ _ h => h
  refine ⟨_, rfl, by decide, fun t w' => ∃ (i : Nat) (d' : Array Int), t.1 = (i : Int) ∧ a ≤ i ∧ PermIn a b d d' ∧ Row w' g c d' ∧ Sx w' w.heap.size ∧ Keep (fun b => b = g) w w', fun t _ => ((a + (b - a) / 4 * 2 + 2 : Int) - t.1).toNat,
    ⟨_, d, rfl, by omega, permIn_refl d a b, r1, ⟨_, n1.at_⟩, n1.keep.mono fun _ _ h => h.elim⟩, ?_⟩
  rintro _ _ w2 ⟨i, d', rfl, hi, hp, hr, hx, hk⟩
  have hsz := hp.1
  refine ⟨by decide, bcase_mk (fun hle => (s_xor hx).mono ?_) (fun _ => ⟨by first | exact rfl | exact trivial, d', hp, hr, hk⟩)⟩
  have hle : (i : Int) ≤ ((a + (b - a) / 4 * 2 + 1 : Nat) : Int) := of_decide_eq_true hle
  rintro _ w3 ⟨⟨n, rfl⟩, hx3, k3⟩
  have hr3 : Row w3 g c d' := Sl.keep hr k3 fun t ht e => hg (ht.eq ▸ (show t = w.heap.size from e))
  obtain ⟨z, hz, hzm⟩ := and_le n (y := m - 1) (by omega)
  have e9 : IntKind.wrap .i64 (bits .and .u64 n ((m - 1 : Nat) : Int)) = (z : Int) := by rw [hz, wrap64 (by omega) (by omega)]
  have hk3 : Keep (fun b => b = g) w w3 := hk.trans k3 fun t ht e => by have : t = w.heap.size := e; omega
  refine ⟨_, rfl, ?_⟩
  simp only [e8, e9]
  refine ⟨fun t w' => w3 = w' ∧ ∃ o : Nat, t.1 = (o : Int) ∧ o < b - a, bcase_mk (fun hb2 => ⟨rfl, z - (b - a), ?_, by omega⟩) (fun hb2 => ⟨rfl, z, rfl, by have := of_decide_eq_false hb2; omega⟩), ?_⟩
  · have hb2 : (z : Int) ≥ ((b - a : Nat) : Int) := of_decide_eq_true hb2
    show IntKind.wrap .i64 ((z : Int) - ((b - a : Nat) : Int)) = _
    rw [wrap64 (by omega) (by omega)]; omega
  rintro _ _ _ ⟨rfl, o, rfl, ho⟩
  have e10 : IntKind.wrap .i64 ((a : Int) + (o : Int)) = ((a + o : Nat) : Int) := by rw [wrap64 (by omega) (by omega)]; omega
  simp only [e10]
  refine ⟨⟨by omega, by omega⟩, ?_⟩
  rw [← hsz] at hb hsm ⊢
  refine ⟨_, hr3.cell (i := a + o) (by omega), ⟨by omega, by omega⟩, _, hr3.cell (i := i) (by omega), ⟨by omega, by omega⟩, fun w4 hd4 => row_store (hr3.drew hd4) (by omega) fun w5 h5 k5 => ⟨⟨by omega, by omega⟩, row_store h5 (by simp; omega) fun w6 h6 k6 => ?_⟩⟩
  rw [wrap64 (by omega) (by omega)]
  obtain ⟨nx, hnx⟩ := hx3
  have hx6 : Sx w6 w.heap.size := ⟨nx, k6.at_ (k5.at_ (hd4.at_ hnx) (fun e => hg e.symm)) (fun e => hg e.symm)⟩
  refine ⟨⟨i + 1, swp d' i (a + o), by simp, by omega, permIn_trans _ _ _ _ _ hp (swp_permIn d' a b i (a + o) hi (by omega) (by omega) (by omega) hb), h6, hx6, ((hk3.trans (Keep.drew _ hd4) fun _ _ h => h).trans k5 fun _ _ h => h).trans k6 fun _ _ h => h⟩, by show ((a + (b - a) / 4 * 2 + 2 : Int) - ((i : Int) + 1)).toNat < ((a + (b - a) / 4 * 2 + 2 : Int) - (i : Int)).toNat; omega⟩
end

end Go.Proofs.Ytgepmlgkeljelaa.Vc
