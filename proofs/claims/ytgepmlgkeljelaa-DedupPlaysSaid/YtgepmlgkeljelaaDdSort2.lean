/- slices.Sort at []uint32: the partitions. -/
import Derived.Test.YtgepmlgkeljelaaDdSort
namespace Go.Proofs.Ytgepmlgkeljelaa.Vc
open Go Go.Proofs Go.Sort

section
variable {w0 w : World} {g c : Nat} {d : Array Int} {k : Nat} {J : Int → World → Prop}

/-- 'for i <= j && less(data[i], data[a]) { i++ }'. -/
theorem up_vc (h : SPost w0 g c d w) {a i j : Nat} (ha : a < d.size) (hj : j < d.size) (hsm : d.size ≤ 100000) (hi : i ≤ 100000) (hJ : ∀ w', SPost w0 g c d w' → J ((scanUp (fun x => ltInt x d[a]!) d j i : Nat) : Int) w') :
    ∃ (I3 : Tup [(k, (.int .i64))] → World → Prop) (μ3 : Tup [(k, (.int .i64))] → World → Nat), I3 ((i : Int), ()) w ∧
    ∀ (_ : St) (n10 : Int) (wL3 : World), I3 (n10, ()) wL3 →
    bcase (decide (n10 ≤ (j : Int))) (
      (0 ≤ n10 ∧ n10 < (d.size : Int)) ∧
      ptrW (some ⟨g, 0, none⟩) fun a36 =>
      ∃ n37 : Int, wL3.cell? (a36.add (n10.toNat * 1)) = some (.int .u32 n37) ∧
      (0 ≤ (a : Int) ∧ (a : Int) < (d.size : Int)) ∧
      ptrW (some ⟨g, 0, none⟩) fun a40 =>
      ∃ n41 : Int, wL3.cell? (a40.add ((a : Int).toNat * 1)) = some (.int .u32 n41) ∧
      ∀ wd3, Drew wL3 wd3 →
      Calls P F.«cmp_Less_uint32» ⟨[.int .u32 n37, .int .u32 n41]⟩ wd3 fun e42 w42 => ∃ b42 : Bool, e42 = .returned (.bool b42) ∧
      bcase b42 (
        I3 ((IntKind.wrap .i64 (n10 + 1)), ()) w42 ∧ μ3 ((IntKind.wrap .i64 (n10 + 1)), ()) w42 < μ3 (n10, ()) wL3)
        (J n10 w42))
      (∀ wd3, Drew wL3 wd3 → J n10 wd3) := by
  refine ⟨fun t w' => ∃ m : Nat, t.1 = m ∧ m ≤ 100000 ∧ SPost w0 g c d w' ∧ scanUp (fun x => ltInt x d[a]!) d j m = scanUp (fun x => ltInt x d[a]!) d j i, fun t _ => ((j : Int) + 1 - t.1).toNat, ⟨i, rfl, hi, h, rfl⟩, ?_⟩
  rintro _ _ w1 ⟨m, rfl, hm, hp, he⟩
  refine bcase_mk (fun hb => ?_) (fun hb w2 hd => ?_)
  · have hb : (m : Int) ≤ (j : Int) := of_decide_eq_true hb
    refine ⟨⟨by omega, by omega⟩, _, hp.1.cell (i := m) (by omega), ⟨by omega, by omega⟩, _, hp.1.cell (i := a) ha, fun w2 hd => (s_Less w2 _ _).mono ?_⟩
    rintro _ _ ⟨rfl, rfl⟩
    have hst : scanUp (fun x => ltInt x d[a]!) d j m = if ltInt d[m]! d[a]! then scanUp (fun x => ltInt x d[a]!) d j (m + 1) else m := by
      conv => lhs; unfold scanUp
      simp only [show decide (m ≤ j) = true by simp; omega, Bool.true_and]
    refine ⟨_, rfl, bcase_mk (fun hl => ?_) (fun hl => ?_)⟩
    · rw [if_pos hl] at hst
      rw [wrap64 (by omega) (by omega)]
      exact ⟨⟨m + 1, by simp, by omega, hp.drew hd, by rw [← hst]; exact he⟩, by show ((j : Int) + 1 - ((m : Int) + 1)).toNat < ((j : Int) + 1 - (m : Int)).toNat; omega⟩
    · rw [if_neg (by rw [hl]; simp)] at hst
      rw [hst] at he
      rw [he]
      exact hJ _ (hp.drew hd)
  · have hb : ¬ (m : Int) ≤ (j : Int) := of_decide_eq_false hb
    have hst : scanUp (fun x => ltInt x d[a]!) d j m = m := by
      unfold scanUp
      rw [if_neg (by simp; intro; omega)]
    rw [hst] at he
    rw [he]
    exact hJ _ (hp.drew hd)

/-- 'for i <= j && !less(data[j], data[a]) { j-- }'. -/
theorem down_vc (h : SPost w0 g c d w) {a i j : Nat} (ha : a < d.size) (hj : j < d.size) (hsm : d.size ≤ 100000) (hi : 1 ≤ i) (hJ : ∀ w', SPost w0 g c d w' → J ((scanDown (fun x => !ltInt x d[a]!) d i j : Nat) : Int) w') :
    ∃ (I3 : Tup [(k, (.int .i64))] → World → Prop) (μ3 : Tup [(k, (.int .i64))] → World → Nat), I3 ((j : Int), ()) w ∧
    ∀ (_ : St) (n10 : Int) (wL3 : World), I3 (n10, ()) wL3 →
    bcase (decide ((i : Int) ≤ n10)) (
      (0 ≤ n10 ∧ n10 < (d.size : Int)) ∧
      ptrW (some ⟨g, 0, none⟩) fun a36 =>
      ∃ n37 : Int, wL3.cell? (a36.add (n10.toNat * 1)) = some (.int .u32 n37) ∧
      (0 ≤ (a : Int) ∧ (a : Int) < (d.size : Int)) ∧
      ptrW (some ⟨g, 0, none⟩) fun a40 =>
      ∃ n41 : Int, wL3.cell? (a40.add ((a : Int).toNat * 1)) = some (.int .u32 n41) ∧
      ∀ wd3, Drew wL3 wd3 →
      Calls P F.«cmp_Less_uint32» ⟨[.int .u32 n37, .int .u32 n41]⟩ wd3 fun e42 w42 => ∃ b42 : Bool, e42 = .returned (.bool b42) ∧
      bcase (!b42) (
        I3 ((IntKind.wrap .i64 (n10 - 1)), ()) w42 ∧ μ3 ((IntKind.wrap .i64 (n10 - 1)), ()) w42 < μ3 (n10, ()) wL3)
        (J n10 w42))
      (∀ wd3, Drew wL3 wd3 → J n10 wd3) := by
  refine ⟨fun t w' => ∃ m : Nat, t.1 = m ∧ m ≤ j ∧ SPost w0 g c d w' ∧ scanDown (fun x => !ltInt x d[a]!) d i m = scanDown (fun x => !ltInt x d[a]!) d i j, fun t _ => t.1.toNat, ⟨j, rfl, Nat.le_refl _, h, rfl⟩, ?_⟩
  rintro _ _ w1 ⟨m, rfl, hm, hp, he⟩
  refine bcase_mk (fun hb => ?_) (fun hb w2 hd => ?_)
  · have hb : (i : Int) ≤ (m : Int) := of_decide_eq_true hb
    obtain ⟨n, hn⟩ : ∃ n, m = n + 1 := ⟨m - 1, by omega⟩
    refine ⟨⟨by omega, by omega⟩, _, hp.1.cell (i := m) (by omega), ⟨by omega, by omega⟩, _, hp.1.cell (i := a) ha, fun w2 hd => (s_Less w2 _ _).mono ?_⟩
    rintro _ _ ⟨rfl, rfl⟩
    have hst : scanDown (fun x => !ltInt x d[a]!) d i m = if !ltInt d[m]! d[a]! then scanDown (fun x => !ltInt x d[a]!) d i n else m := by
      subst hn
      conv => lhs; unfold scanDown
      simp only [show decide (i ≤ n + 1) = true by simp; omega, Bool.true_and]
    refine ⟨_, rfl, bcase_mk (fun hl => ?_) (fun hl => ?_)⟩
    · rw [if_pos hl] at hst
      rw [wrap64 (by omega) (by omega)]
      exact ⟨⟨n, by show (m : Int) - 1 = (n : Int); omega, by omega, hp.drew hd, by rw [← hst]; exact he⟩, by show ((m : Int) - 1).toNat < (m : Int).toNat; omega⟩
    · rw [if_neg (by rw [hl]; simp)] at hst
      rw [hst] at he
      rw [he]
      exact hJ _ (hp.drew hd)
  · have hb : ¬ (i : Int) ≤ (m : Int) := of_decide_eq_false hb
    have hst : scanDown (fun x => !ltInt x d[a]!) d i m = m := by
      cases m with
      | zero => rfl
      | succ n => unfold scanDown; rw [if_neg (by simp; intro; omega)]
    rw [hst] at he
    rw [he]
    exact hJ _ (hp.drew hd)
/-- 'for i <= j && !less(data[a], data[i]) { i++ }'. -/
theorem upE_vc (h : SPost w0 g c d w) {a i j : Nat} (ha : a < d.size) (hj : j < d.size) (hsm : d.size ≤ 100000) (hi : i ≤ 100000) (hJ : ∀ w', SPost w0 g c d w' → J ((scanUp (fun x => !ltInt d[a]! x) d j i : Nat) : Int) w') :
    ∃ (I3 : Tup [(k, (.int .i64))] → World → Prop) (μ3 : Tup [(k, (.int .i64))] → World → Nat), I3 ((i : Int), ()) w ∧
    ∀ (_ : St) (n10 : Int) (wL3 : World), I3 (n10, ()) wL3 →
    bcase (decide (n10 ≤ (j : Int))) (
      (0 ≤ (a : Int) ∧ (a : Int) < (d.size : Int)) ∧
      ptrW (some ⟨g, 0, none⟩) fun a36 =>
      ∃ n37 : Int, wL3.cell? (a36.add ((a : Int).toNat * 1)) = some (.int .u32 n37) ∧
      (0 ≤ n10 ∧ n10 < (d.size : Int)) ∧
      ptrW (some ⟨g, 0, none⟩) fun a40 =>
      ∃ n41 : Int, wL3.cell? (a40.add (n10.toNat * 1)) = some (.int .u32 n41) ∧
      ∀ wd3, Drew wL3 wd3 →
      Calls P F.«cmp_Less_uint32» ⟨[.int .u32 n37, .int .u32 n41]⟩ wd3 fun e42 w42 => ∃ b42 : Bool, e42 = .returned (.bool b42) ∧
      bcase (!b42) (
        I3 ((IntKind.wrap .i64 (n10 + 1)), ()) w42 ∧ μ3 ((IntKind.wrap .i64 (n10 + 1)), ()) w42 < μ3 (n10, ()) wL3)
        (J n10 w42))
      (∀ wd3, Drew wL3 wd3 → J n10 wd3) := by
  refine ⟨fun t w' => ∃ m : Nat, t.1 = m ∧ m ≤ 100000 ∧ SPost w0 g c d w' ∧ scanUp (fun x => !ltInt d[a]! x) d j m = scanUp (fun x => !ltInt d[a]! x) d j i, fun t _ => ((j : Int) + 1 - t.1).toNat, ⟨i, rfl, hi, h, rfl⟩, ?_⟩
  rintro _ _ w1 ⟨m, rfl, hm, hp, he⟩
  refine bcase_mk (fun hb => ?_) (fun hb w2 hd => ?_)
  · have hb : (m : Int) ≤ (j : Int) := of_decide_eq_true hb
    refine ⟨⟨by omega, by omega⟩, _, hp.1.cell (i := a) ha, ⟨by omega, by omega⟩, _, hp.1.cell (i := m) (by omega), fun w2 hd => (s_Less w2 _ _).mono ?_⟩
    rintro _ _ ⟨rfl, rfl⟩
    have hst : scanUp (fun x => !ltInt d[a]! x) d j m = if !ltInt d[a]! d[m]! then scanUp (fun x => !ltInt d[a]! x) d j (m + 1) else m := by
      conv => lhs; unfold scanUp
      simp only [show decide (m ≤ j) = true by simp; omega, Bool.true_and]
    refine ⟨_, rfl, bcase_mk (fun hl => ?_) (fun hl => ?_)⟩
    · rw [if_pos hl] at hst
      rw [wrap64 (by omega) (by omega)]
      exact ⟨⟨m + 1, by simp, by omega, hp.drew hd, by rw [← hst]; exact he⟩, by show ((j : Int) + 1 - ((m : Int) + 1)).toNat < ((j : Int) + 1 - (m : Int)).toNat; omega⟩
    · rw [if_neg (by rw [hl]; simp)] at hst
      rw [hst] at he
      rw [he]
      exact hJ _ (hp.drew hd)
  · have hb : ¬ (m : Int) ≤ (j : Int) := of_decide_eq_false hb
    have hst : scanUp (fun x => !ltInt d[a]! x) d j m = m := by
      unfold scanUp
      rw [if_neg (by simp; intro; omega)]
    rw [hst] at he
    rw [he]
    exact hJ _ (hp.drew hd)

/-- 'for i <= j && less(data[a], data[j]) { j-- }'. -/
theorem downE_vc (h : SPost w0 g c d w) {a i j : Nat} (ha : a < d.size) (hj : j < d.size) (hsm : d.size ≤ 100000) (hi : 1 ≤ i) (hJ : ∀ w', SPost w0 g c d w' → J ((scanDown (fun x => ltInt d[a]! x) d i j : Nat) : Int) w') :
    ∃ (I3 : Tup [(k, (.int .i64))] → World → Prop) (μ3 : Tup [(k, (.int .i64))] → World → Nat), I3 ((j : Int), ()) w ∧
    ∀ (_ : St) (n10 : Int) (wL3 : World), I3 (n10, ()) wL3 →
    bcase (decide ((i : Int) ≤ n10)) (
      (0 ≤ (a : Int) ∧ (a : Int) < (d.size : Int)) ∧
      ptrW (some ⟨g, 0, none⟩) fun a36 =>
      ∃ n37 : Int, wL3.cell? (a36.add ((a : Int).toNat * 1)) = some (.int .u32 n37) ∧
      (0 ≤ n10 ∧ n10 < (d.size : Int)) ∧
      ptrW (some ⟨g, 0, none⟩) fun a40 =>
      ∃ n41 : Int, wL3.cell? (a40.add (n10.toNat * 1)) = some (.int .u32 n41) ∧
      ∀ wd3, Drew wL3 wd3 →
      Calls P F.«cmp_Less_uint32» ⟨[.int .u32 n37, .int .u32 n41]⟩ wd3 fun e42 w42 => ∃ b42 : Bool, e42 = .returned (.bool b42) ∧
      bcase b42 (
        I3 ((IntKind.wrap .i64 (n10 - 1)), ()) w42 ∧ μ3 ((IntKind.wrap .i64 (n10 - 1)), ()) w42 < μ3 (n10, ()) wL3)
        (J n10 w42))
      (∀ wd3, Drew wL3 wd3 → J n10 wd3) := by
  refine ⟨fun t w' => ∃ m : Nat, t.1 = m ∧ m ≤ j ∧ SPost w0 g c d w' ∧ scanDown (fun x => ltInt d[a]! x) d i m = scanDown (fun x => ltInt d[a]! x) d i j, fun t _ => t.1.toNat, ⟨j, rfl, Nat.le_refl _, h, rfl⟩, ?_⟩
  rintro _ _ w1 ⟨m, rfl, hm, hp, he⟩
  refine bcase_mk (fun hb => ?_) (fun hb w2 hd => ?_)
  · have hb : (i : Int) ≤ (m : Int) := of_decide_eq_true hb
    obtain ⟨n, hn⟩ : ∃ n, m = n + 1 := ⟨m - 1, by omega⟩
    refine ⟨⟨by omega, by omega⟩, _, hp.1.cell (i := a) ha, ⟨by omega, by omega⟩, _, hp.1.cell (i := m) (by omega), fun w2 hd => (s_Less w2 _ _).mono ?_⟩
    rintro _ _ ⟨rfl, rfl⟩
    have hst : scanDown (fun x => ltInt d[a]! x) d i m = if ltInt d[a]! d[m]! then scanDown (fun x => ltInt d[a]! x) d i n else m := by
      subst hn
      conv => lhs; unfold scanDown
      simp only [show decide (i ≤ n + 1) = true by simp; omega, Bool.true_and]
    refine ⟨_, rfl, bcase_mk (fun hl => ?_) (fun hl => ?_)⟩
    · rw [if_pos hl] at hst
      rw [wrap64 (by omega) (by omega)]
      exact ⟨⟨n, by show (m : Int) - 1 = (n : Int); omega, by omega, hp.drew hd, by rw [← hst]; exact he⟩, by show ((m : Int) - 1).toNat < (m : Int).toNat; omega⟩
    · rw [if_neg (by rw [hl]; simp)] at hst
      rw [hst] at he
      rw [he]
      exact hJ _ (hp.drew hd)
  · have hb : ¬ (i : Int) ≤ (m : Int) := of_decide_eq_false hb
    have hst : scanDown (fun x => ltInt d[a]! x) d i m = m := by
      cases m with
      | zero => rfl
      | succ n => unfold scanDown; rw [if_neg (by simp; intro; omega)]
    rw [hst] at he
    rw [he]
    exact hJ _ (hp.drew hd)
end

theorem scanUp_le' (p : Int → Bool) (d : Array Int) (j i : Nat) : i ≤ scanUp p d j i ∧ scanUp p d j i ≤ max i (j + 1) := by
  fun_induction scanUp p d j i with
  | case1 i h ih =>
    simp only [Bool.and_eq_true, decide_eq_true_eq] at h
    omega
  | case2 i h => omega
theorem scanDown_le' (p : Int → Bool) (d : Array Int) (i : Nat) : ∀ j, scanDown p d i j ≤ j
  | 0 => Nat.le_refl _
  | j + 1 => by
    unfold scanDown
    split
    · have := scanDown_le' p d i j; omega
    · omega
theorem partLoop_size (a i j : Nat) (d : Array Int) : (partLoop ltInt a i j d).2.size = d.size := by
  fun_induction partLoop ltInt a i j d with
  | case1 => rfl
  | case2 => rename_i ih; rw [ih, swp_size]
  | case3 => rfl

section
variable {w : World} {g c : Nat} {d : Array Int}

theorem s_partition (h : Row w g c d) {a b pivot : Nat} (ha : a + 1 < b) (hb : b ≤ d.size) (hp : pivot < d.size) (hsm : d.size ≤ 100000) :
    Calls P F.«slices_partitionOrdered_uint32» ⟨[.slice (some ⟨g, 0, none⟩) d.size c, .int .i64 (a : Nat), .int .i64 (b : Nat), .int .i64 (pivot : Nat)]⟩ w fun e w' =>
      e = .returned (.tuple ⟨[.int .i64 ((partition ltInt d a b pivot).1 : Nat), .bool (partition ltInt d a b pivot).2.1]⟩) ∧ SPost w g c (partition ltInt d a b pivot).2.2 w' ∧ (partition ltInt d a b pivot).2.2.size = d.size := by
  refine ok_slices_partitionOrdered_uint32 ?_
  unfold V_slices_partitionOrdered_uint32
  have e1 : IntKind.wrap .i64 ((a : Int) + 1) = ((a + 1 : Nat) : Int) := by rw [wrap64 (by omega) (by omega)]; omega
  have e2 : IntKind.wrap .i64 ((b : Int) - 1) = ((b - 1 : Nat) : Int) := by rw [wrap64 (by omega) (by omega)]; omega
  simp only [e1, e2]
  refine ⟨⟨by omega, by omega⟩, _, h.cell (i := pivot) hp, ⟨by omega, by omega⟩, _, h.cell (i := a) (by omega), ⟨by omega, by omega⟩, fun w1 hd1 => row_store (h.drew hd1) (by omega) fun w2 h2 k2 => ⟨⟨by omega, by omega⟩, row_store h2 (by simp; omega) fun w3 h3 k3 => ?_⟩⟩
  have p3 : SPost w g c (swp d a pivot) w3 := ⟨h3, ((Keep.drew _ hd1).trans k2 fun _ _ h => h).trans k3 fun _ _ h => h⟩
  have hpart : partition ltInt d a b pivot = (let i := scanUp (fun x => ltInt x (swp d a pivot)[a]!) (swp d a pivot) (b - 1) (a + 1); let j := scanDown (fun x => !ltInt x (swp d a pivot)[a]!) (swp d a pivot) i (b - 1);
    if i > j then (j, true, swp (swp d a pivot) j a) else
      let r := partLoop ltInt a (i + 1) (j - 1) (swp (swp d a pivot) i j)
      (r.1, false, swp r.2 r.1 a)) := rfl
  dsimp only at hpart
  have hsz1 : (swp d a pivot).size = d.size := swp_size _ _ _
  generalize swp d a pivot = d1 at p3 hpart hsz1
  clear h2 h3 k2 k3
  rw [← hsz1] at hb hsm hp ⊢
  obtain ⟨hu1, hu2⟩ := scanUp_le' (fun x => ltInt x d1[a]!) d1 (b - 1) (a + 1)
  refine ⟨fun t w' => t.1 = ((scanUp (fun x => ltInt x d1[a]!) d1 (b - 1) (a + 1) : Nat) : Int) ∧ SPost w g c d1 w', up_vc (a := a) (i := a + 1) (j := b - 1) p3 (by omega) (by omega) hsm (by omega) fun w' h => ⟨rfl, h⟩, ?_⟩
  rintro _ _ w4 ⟨rfl, p4⟩
  generalize scanUp (fun x => ltInt x d1[a]!) d1 (b - 1) (a + 1) = i at hu1 hu2 hpart
  have hdl := scanDown_le' (fun x => !ltInt x d1[a]!) d1 i (b - 1)
  refine ⟨fun t w' => t.1 = ((scanDown (fun x => !ltInt x d1[a]!) d1 i (b - 1) : Nat) : Int) ∧ SPost w g c d1 w', down_vc (a := a) (i := i) (j := b - 1) p4 (by omega) (by omega) hsm (by omega) fun w' h => ⟨rfl, h⟩, ?_⟩
  rintro _ _ w5 ⟨rfl, p5⟩
  generalize scanDown (fun x => !ltInt x d1[a]!) d1 i (b - 1) = j at hdl hpart
  refine bcase_mk (fun hij => ?_) (fun hij => ?_)
  · have hij : (i : Int) > (j : Int) := of_decide_eq_true hij
    rw [if_pos (by omega)] at hpart
    refine ⟨⟨by omega, by omega⟩, _, p5.1.cell (i := a) (by omega), ⟨by omega, by omega⟩, _, p5.1.cell (i := j) (by omega), ⟨by omega, by omega⟩, fun w6 hd6 => row_store (p5.1.drew hd6) (by omega) fun w7 h7 k7 => ⟨⟨by omega, by omega⟩, row_store h7 (by simp; omega) fun w8 h8 k8 => ?_⟩⟩
    rw [hpart]
    exact ⟨rfl, ⟨h8, ((p5.drew hd6).2.trans k7 fun _ _ h => h).trans k8 fun _ _ h => h⟩, swp_size _ _ _⟩
  · have hij : ¬ (i : Int) > (j : Int) := of_decide_eq_false hij
    rw [if_neg (by omega)] at hpart
    refine ⟨⟨by omega, by omega⟩, _, p5.1.cell (i := j) (by omega), ⟨by omega, by omega⟩, _, p5.1.cell (i := i) (by omega), ⟨by omega, by omega⟩, fun w6 hd6 => row_store (p5.1.drew hd6) (by omega) fun w7 h7 k7 => ⟨⟨by omega, by omega⟩, row_store h7 (by simp; omega) fun w8 h8 k8 => ?_⟩⟩
    have p8 : SPost w g c (swp d1 i j) w8 := ⟨h8, ((p5.drew hd6).2.trans k7 fun _ _ h => h).trans k8 fun _ _ h => h⟩
    have e3 : IntKind.wrap .i64 ((i : Int) + 1) = ((i + 1 : Nat) : Int) := by rw [wrap64 (by omega) (by omega)]; omega
    have e4 : IntKind.wrap .i64 ((j : Int) - 1) = ((j - 1 : Nat) : Int) := by rw [wrap64 (by omega) (by omega)]; omega
    simp only [e3, e4]
    refine ⟨fun t w' => ∃ (i2 j2 : Nat) (d2 : Array Int), t.1 = (i2 : Int) ∧ t.2.1 = (j2 : Int) ∧ 1 ≤ i2 ∧ i2 ≤ 100000 ∧ j2 < b ∧ d2.size = d1.size ∧ SPost w g c d2 w' ∧ partLoop ltInt a i2 j2 d2 = partLoop ltInt a (i + 1) (j - 1) (swp d1 i j), fun t _ => (t.2.1 + 1 - t.1).toNat,
      ⟨i + 1, j - 1, swp d1 i j, rfl, rfl, by omega, by omega, by omega, swp_size _ _ _, p8, rfl⟩, ?_⟩
    rintro _ _ _ w9 ⟨i2, j2, d2, rfl, rfl, hi2, hi2', hj2, hsz2, p9, he⟩
    have hst : partLoop ltInt a i2 j2 d2 = (let i3 := scanUp (fun x => ltInt x d2[a]!) d2 j2 i2; let j3 := scanDown (fun x => !ltInt x d2[a]!) d2 i3 j2;
        if i3 > j3 then (j3, d2) else if (j3 - 1) + 1 - (i3 + 1) < j2 + 1 - i2 then partLoop ltInt a (i3 + 1) (j3 - 1) (swp d2 i3 j3) else (j3, d2)) := by
      conv => lhs; unfold partLoop
      rfl
    dsimp only at hst
    obtain ⟨hv1, hv2⟩ := scanUp_le' (fun x => ltInt x d2[a]!) d2 j2 i2
    rw [← hsz2] at hb hsm hp ⊢
    refine ⟨fun t w' => t.1 = ((scanUp (fun x => ltInt x d2[a]!) d2 j2 i2 : Nat) : Int) ∧ SPost w g c d2 w', up_vc (a := a) (i := i2) (j := j2) p9 (by omega) (by omega) hsm (by omega) fun w' h => ⟨rfl, h⟩, ?_⟩
    rintro _ _ w10 ⟨rfl, p10⟩
    generalize scanUp (fun x => ltInt x d2[a]!) d2 j2 i2 = i3 at hv1 hv2 hst
    have hvl := scanDown_le' (fun x => !ltInt x d2[a]!) d2 i3 j2
    refine ⟨fun t w' => t.1 = ((scanDown (fun x => !ltInt x d2[a]!) d2 i3 j2 : Nat) : Int) ∧ SPost w g c d2 w', down_vc (a := a) (i := i3) (j := j2) p10 (by omega) (by omega) hsm (by omega) fun w' h => ⟨rfl, h⟩, ?_⟩
    rintro _ _ w11 ⟨rfl, p11⟩
    generalize scanDown (fun x => !ltInt x d2[a]!) d2 i3 j2 = j3 at hvl hst
    refine bcase_mk (fun hij => ?_) (fun hij => ?_)
    · have hij : (i3 : Int) > (j3 : Int) := of_decide_eq_true hij
      rw [if_pos (by omega)] at hst
      rw [← he, hst] at hpart
      refine ⟨⟨by omega, by omega⟩, _, p11.1.cell (i := a) (by omega), ⟨by omega, by omega⟩, _, p11.1.cell (i := j3) (by omega), ⟨by omega, by omega⟩, fun w6 hd6 => row_store (p11.1.drew hd6) (by omega) fun w7 h7 k7 => ⟨⟨by omega, by omega⟩, row_store h7 (by simp; omega) fun w8 h8 k8 => ?_⟩⟩
      rw [hpart]
      exact ⟨rfl, ⟨h8, ((p11.drew hd6).2.trans k7 fun _ _ h => h).trans k8 fun _ _ h => h⟩, by rw [swp_size]⟩
    · have hij : ¬ (i3 : Int) > (j3 : Int) := of_decide_eq_false hij
      rw [if_neg (by omega), if_pos (by omega)] at hst
      refine ⟨⟨by omega, by omega⟩, _, p11.1.cell (i := j3) (by omega), ⟨by omega, by omega⟩, _, p11.1.cell (i := i3) (by omega), ⟨by omega, by omega⟩, fun w6 hd6 => row_store (p11.1.drew hd6) (by omega) fun w7 h7 k7 => ⟨⟨by omega, by omega⟩, row_store h7 (by simp; omega) fun w8 h8 k8 => ?_⟩⟩
      rw [wrap64 (by omega) (by omega), wrap64 (by omega) (by omega)]
      exact ⟨⟨i3 + 1, j3 - 1, swp d2 i3 j3, by simp, by show (j3 : Int) - 1 = ((j3 - 1 : Nat) : Int); omega, by omega, by omega, by omega, by rw [swp_size], ⟨h8, ((p11.drew hd6).2.trans k7 fun _ _ h => h).trans k8 fun _ _ h => h⟩, by rw [← hst]; exact he⟩, by show (((j3 : Int) - 1) + 1 - ((i3 : Int) + 1)).toNat < ((j2 : Int) + 1 - (i2 : Int)).toNat; omega⟩
theorem partEqLoop_size (a i j : Nat) (d : Array Int) : (partEqLoop ltInt a i j d).2.size = d.size := by
  fun_induction partEqLoop ltInt a i j d with
  | case1 => rfl
  | case2 => rename_i ih; rw [ih, swp_size]
  | case3 => rfl

theorem s_partitionEqual (h : Row w g c d) {a b pivot : Nat} (ha : a + 1 < b) (hb : b ≤ d.size) (hp : pivot < d.size) (hsm : d.size ≤ 100000) :
    Calls P F.«slices_partitionEqualOrdered_uint32» ⟨[.slice (some ⟨g, 0, none⟩) d.size c, .int .i64 (a : Nat), .int .i64 (b : Nat), .int .i64 (pivot : Nat)]⟩ w fun e w' =>
      e = .returned (.int .i64 ((partitionEqual ltInt d a b pivot).1 : Nat)) ∧ SPost w g c (partitionEqual ltInt d a b pivot).2 w' ∧ (partitionEqual ltInt d a b pivot).2.size = d.size := by
  refine ok_slices_partitionEqualOrdered_uint32 ?_
  unfold V_slices_partitionEqualOrdered_uint32
  have e1 : IntKind.wrap .i64 ((a : Int) + 1) = ((a + 1 : Nat) : Int) := by rw [wrap64 (by omega) (by omega)]; omega
  have e2 : IntKind.wrap .i64 ((b : Int) - 1) = ((b - 1 : Nat) : Int) := by rw [wrap64 (by omega) (by omega)]; omega
  simp only [e1, e2]
  refine ⟨⟨by omega, by omega⟩, _, h.cell (i := pivot) hp, ⟨by omega, by omega⟩, _, h.cell (i := a) (by omega), ⟨by omega, by omega⟩, fun w1 hd1 => row_store (h.drew hd1) (by omega) fun w2 h2 k2 => ⟨⟨by omega, by omega⟩, row_store h2 (by simp; omega) fun w3 h3 k3 => ?_⟩⟩
  have p3 : SPost w g c (swp d a pivot) w3 := ⟨h3, ((Keep.drew _ hd1).trans k2 fun _ _ h => h).trans k3 fun _ _ h => h⟩
  have hpart : partitionEqual ltInt d a b pivot = partEqLoop ltInt a (a + 1) (b - 1) (swp d a pivot) := rfl
  have hsz1 : (swp d a pivot).size = d.size := swp_size _ _ _
  generalize swp d a pivot = d1 at p3 hpart hsz1
  rw [hpart]
  clear h2 h3 k2 k3 hpart
  rw [← hsz1] at hb hsm hp ⊢
  refine ⟨fun t w' => ∃ (i2 j2 : Nat) (d2 : Array Int), t.1 = (i2 : Int) ∧ t.2.1 = (j2 : Int) ∧ 1 ≤ i2 ∧ i2 ≤ 100000 ∧ j2 < b ∧ d2.size = d1.size ∧ SPost w g c d2 w' ∧ partEqLoop ltInt a i2 j2 d2 = partEqLoop ltInt a (a + 1) (b - 1) d1, fun t _ => (t.2.1 + 1 - t.1).toNat,
    ⟨a + 1, b - 1, d1, rfl, rfl, by omega, by omega, by omega, rfl, p3, rfl⟩, ?_⟩
  rintro _ _ _ w9 ⟨i2, j2, d2, rfl, rfl, hi2, hi2', hj2, hsz2, p9, he⟩
  have hst : partEqLoop ltInt a i2 j2 d2 = (let i3 := scanUp (fun x => !ltInt d2[a]! x) d2 j2 i2; let j3 := scanDown (fun x => ltInt d2[a]! x) d2 i3 j2;
      if i3 > j3 then (i3, d2) else if (j3 - 1) + 1 - (i3 + 1) < j2 + 1 - i2 then partEqLoop ltInt a (i3 + 1) (j3 - 1) (swp d2 i3 j3) else (i3, d2)) := by
    conv => lhs; unfold partEqLoop
    rfl
  dsimp only at hst
  obtain ⟨hv1, hv2⟩ := scanUp_le' (fun x => !ltInt d2[a]! x) d2 j2 i2
  rw [← hsz2] at hb hsm hp ⊢
  refine ⟨fun t w' => t.1 = ((scanUp (fun x => !ltInt d2[a]! x) d2 j2 i2 : Nat) : Int) ∧ SPost w g c d2 w', upE_vc (a := a) (i := i2) (j := j2) p9 (by omega) (by omega) hsm (by omega) fun w' h => ⟨rfl, h⟩, ?_⟩
  rintro _ _ w10 ⟨rfl, p10⟩
  generalize scanUp (fun x => !ltInt d2[a]! x) d2 j2 i2 = i3 at hv1 hv2 hst
  have hvl := scanDown_le' (fun x => ltInt d2[a]! x) d2 i3 j2
  refine ⟨fun t w' => t.1 = ((scanDown (fun x => ltInt d2[a]! x) d2 i3 j2 : Nat) : Int) ∧ SPost w g c d2 w', downE_vc (a := a) (i := i3) (j := j2) p10 (by omega) (by omega) hsm (by omega) fun w' h => ⟨rfl, h⟩, ?_⟩
  rintro _ _ w11 ⟨rfl, p11⟩
  generalize scanDown (fun x => ltInt d2[a]! x) d2 i3 j2 = j3 at hvl hst
  refine bcase_mk (fun hij => ?_) (fun hij => ?_)
  · have hij : (i3 : Int) > (j3 : Int) := of_decide_eq_true hij
    rw [if_pos (by omega)] at hst
    rw [← he, hst]
    exact ⟨rfl, p11, rfl⟩
  · have hij : ¬ (i3 : Int) > (j3 : Int) := of_decide_eq_false hij
    rw [if_neg (by omega), if_pos (by omega)] at hst
    refine ⟨⟨by omega, by omega⟩, _, p11.1.cell (i := j3) (by omega), ⟨by omega, by omega⟩, _, p11.1.cell (i := i3) (by omega), ⟨by omega, by omega⟩, fun w6 hd6 => row_store (p11.1.drew hd6) (by omega) fun w7 h7 k7 => ⟨⟨by omega, by omega⟩, row_store h7 (by simp; omega) fun w8 h8 k8 => ?_⟩⟩
    rw [wrap64 (by omega) (by omega), wrap64 (by omega) (by omega)]
    exact ⟨⟨i3 + 1, j3 - 1, swp d2 i3 j3, by simp, by show (j3 : Int) - 1 = ((j3 - 1 : Nat) : Int); omega, by omega, by omega, by omega, by rw [swp_size], ⟨h8, ((p11.drew hd6).2.trans k7 fun _ _ h => h).trans k8 fun _ _ h => h⟩, by rw [← hst]; exact he⟩, by show (((j3 : Int) - 1) + 1 - ((i3 : Int) + 1)).toNat < ((j2 : Int) + 1 - (i2 : Int)).toNat; omega⟩
end

end Go.Proofs.Ytgepmlgkeljelaa.Vc
