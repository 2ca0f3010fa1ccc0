/- revertlaw17.PoolLoads answers true at every input, and leaves its arguments as they read: no condition. -/
import Derived.Test.YtgepmlgkeljelaaGreatRows
import Derived.Test.YtgepmlgkeljelaaGreatPoLoads
import Derived.ProofKit
import Derived.Deep.Slices
import Derived.OpenShut
namespace Go.Proofs.YtgepmlgkeljelaaGreat.Vc
open Go Go.ChangeShapes Go.WideShapes Go.ChangeAt Go.RowKit

theorem wfU32 {n : Int} (h : (Lit.int .u32 n).wf = true) : 0 ≤ n ∧ n ≤ 4294967295 := by
  have e1 : IntKind.u32.min = 0 := rfl
  have e2 : IntKind.u32.max = 4294967295 := rfl
  simp [Lit.wf, e1, e2] at h
  omega
instance : Inhabited PC := ⟨⟨0, 0, 0, 0⟩⟩

theorem lt_of_cell {w : World} {b o : Nat} {v : Value} (h : w.cell? (⟨b, o, none⟩ : Addr) = some v) : b < w.heap.size := by
  rcases Nat.lt_or_ge b w.heap.size with h1 | h1
  · exact h1
  · simp [World.cell?, Array.getElem?_eq_none h1] at h
theorem cell_lt {w : World} {a : Addr} {v : Value} (h : w.cell? a = some v) : a.block < w.heap.size := by
  rcases Nat.lt_or_ge a.block w.heap.size with h1 | h1
  · exact h1
  · have : w.heap[a.block]? = none := Array.getElem?_eq_none h1
    unfold World.cell? at h
    simp [this] at h

set_option maxRecDepth 100000 in
theorem open_pc {H : Type} {enc : TypeId × Value → H} {W : World} {sp : Nat → Bool} {hd : Bool} {fuel : Nat} {cs : List Value} {y : DataW H × List MemPlace} (h : DataW.trod enc Tryz.prog W 0 sp hd fuel T.«pool_Chunk» cs = some y) :
    ∃ x : PC, cs = encPC x ∧ 0 ≤ x.id ∧ x.id ≤ 4294967295 := by
  obtain ⟨xs, k, hk, hxy, hlen, hxl, hf⟩ := DataW.trod_struct (t := T.«pool_Chunk») Tryz.underlying50 h
  have hlen : cs.length = 4 := hlen.trans (by kernel_rfl)
  match cs, hlen with
  | [v0, v1, v2, v3], _ =>
    have hx : xs.length = 4 := hxl
    match xs, hx with
    | [y0, y1, y2, y3], _ =>
      have c5 : Tryz.prog.cellsOf T.«u32» = 1 := by kernel_rfl
      have c3 : Tryz.prog.cellsOf T.«i64'» = 1 := by kernel_rfl
      have g0 := hf 0 _ rfl
      have g1 := hf 1 _ rfl
      have g2 := hf 2 _ rfl
      have g3 := hf 3 _ rfl
      simp [c5, c3] at g0 g1 g2 g3
      obtain ⟨n0, e0, -, w0⟩ := DataW.trod_int Tryz.underlying48 g0
      obtain ⟨n1, e1, -, -⟩ := DataW.trod_int Tryz.underlying3 g1
      obtain ⟨n2, e2, -, -⟩ := DataW.trod_int Tryz.underlying3 g2
      obtain ⟨n3, e3, -, -⟩ := DataW.trod_int Tryz.underlying3 g3
      cases e0; cases e1; cases e2; cases e3
      exact ⟨⟨n0, n1, n2, n3⟩, rfl, wfU32 w0⟩

theorem open_pcs {H : Type} {enc : TypeId × Value → H} {W : World} {sp : Nat → Bool} {hd : Bool} {fuel : Nat} {cs : List Value} {y : DataW H × List MemPlace} (h : DataW.trod enc Tryz.prog W 0 sp hd fuel T.«l_pool_Chunk» cs = some y) :
    ∃ (a : Option Addr) (n c : Nat) (A : List PC), cs = [.slice a n c] ∧ Src W 4 a n c (A.flatMap encPC) ∧ (∀ x, a = some x → A ≠ [] → x.block < W.heap.size) ∧ ∀ x ∈ A, 0 ≤ x.id ∧ x.id ≤ 4294967295 := by
  rcases Deep.open_slice Tryz.underlying46 h with ⟨rfl, _⟩ | ⟨a, len, cap, m, n, D, Pl, rfl, _, hl, hm, rfl, _, hx⟩
  · exact ⟨none, 0, 0, [], rfl, ⟨rfl, .inl ⟨rfl, rfl, rfl⟩⟩, (fun _ h _ => by cases h), (fun _ h => by cases h)⟩
  · have hlm : len ≤ (if sp a.block then cap else len) := by split <;> omega
    have c31 : Tryz.prog.cellsOf T.«pool_Chunk» = 4 := by kernel_rfl
    have each : ∀ i, i < len → ∃ x : PC, (∀ j v, (encPC x)[j]? = some v → W.cell? ((a.add (i * 4)).add j) = some v) ∧ 0 ≤ x.id ∧ x.id ≤ 4294967295 := by
      intro i hi
      obtain ⟨cs', h1, h2⟩ := hx i (by omega)
      rw [c31] at h1
      obtain ⟨_, hlen, hcell⟩ := World.cells?_some h1
      obtain ⟨x, rfl, hb⟩ := open_pc h2
      refine ⟨x, fun j v hj => ?_, hb⟩
      have hj4 : j < 4 := by have := (List.getElem?_eq_some_iff.1 hj).1; simpa [encPC] using this
      exact (hcell j hj4).trans hj
    obtain ⟨f, hf⟩ := Deep.choose_lt each
    have aa : ∀ i j, (a.add i).add j = a.add (i + j) := fun i j => by
      obtain ⟨b, o, s⟩ := a
      cases s with
      | none => simp [add_mk, Nat.add_assoc]
      | some sp => unfold Addr.add; split <;> (split <;> simp_all [Nat.add_assoc])
    have hAl : ((List.range len).map f).length = len := by simp
    refine ⟨some a, len, cap, (List.range len).map f, rfl, ⟨by rw [flatPC_length, hAl], .inr ⟨a, rfl, fun j u hj => ?_⟩⟩, fun x hx hne => ?_, fun x hx => ?_⟩
    · have hjl := (List.getElem?_eq_some_iff.1 hj).1
      rw [flatPC_length, hAl] at hjl
      have hi : j / 4 < len := by omega
      have hget : ((List.range len).map f)[j / 4]? = some (f (j / 4)) := by simp [hi]
      obtain ⟨e0, e1, e2, e3⟩ := flatPC_at hget
      have hfj := (hf (j / 4) hi).1
      have hsplit : j = j / 4 * 4 + j % 4 := by omega
      have hm4 : j % 4 = 0 ∨ j % 4 = 1 ∨ j % 4 = 2 ∨ j % 4 = 3 := by omega
      rw [hsplit] at hj ⊢
      rw [← aa]
      rcases hm4 with e | e | e | e
      · rw [e, Nat.add_zero, e0] at hj; rw [e]; exact hfj 0 _ hj
      · rw [e, e1] at hj; rw [e]; exact hfj 1 _ hj
      · rw [e, e2] at hj; rw [e]; exact hfj 2 _ hj
      · rw [e, e3] at hj; rw [e]; exact hfj 3 _ hj
    · cases hx
      have h0 : 0 < len := by
        rcases Nat.eq_zero_or_pos len with h0 | h0
        · subst h0; exact absurd rfl hne
        · exact h0
      have h1 := cell_lt ((hf 0 h0).1 0 _ rfl)
      rw [aa] at h1
      have : ∀ k, (a.add k).block = a.block := fun k => by unfold Addr.add; split <;> rfl
      rwa [this] at h1
    · obtain ⟨i, hi, rfl⟩ := List.mem_map.1 hx
      exact (hf i (List.mem_range.1 hi)).2

theorem open_strs {H : Type} {enc : TypeId × Value → H} {W : World} {sp : Nat → Bool} {hd : Bool} {fuel : Nat} {cs : List Value} {y : DataW H × List MemPlace} (h : DataW.trod enc Tryz.prog W 0 sp hd fuel T.«l_string» cs = some y) :
    ∃ (a : Option Addr) (n c : Nat) (A : List ByteArray), cs = [.slice a n c] ∧ Src W 1 a n c (A.map strv) := by
  have c9 : Tryz.prog.cellsOf T.«string» = 1 := by kernel_rfl
  rcases Deep.open_slice1 Tryz.underlying41 c9 h with ⟨rfl, _⟩ | ⟨a, len, cap, m, n, V, D, Pl, rfl, _, hl, hm, rfl, _, hx⟩
  · exact ⟨none, 0, 0, [], rfl, rfl, .inl ⟨rfl, rfl, rfl⟩⟩
  · have hlm : len ≤ (if sp a.block then cap else len) := by split <;> omega
    have each : ∀ i, i < len → ∃ s : ByteArray, W.cell? (a.add i) = some (.string s) := by
      intro i hi
      obtain ⟨h1, h2⟩ := hx i (by omega)
      obtain ⟨s, e, -, -⟩ := DataW.trod_string Tryz.underlying9 h2
      simp only [List.cons.injEq, and_true] at e
      exact ⟨s, by rw [h1, e]⟩
    obtain ⟨f, hf⟩ := Deep.choose_lt each
    refine ⟨some a, len, cap, (List.range len).map f, rfl, by simp, .inr ⟨a, rfl, fun j u hj => ?_⟩⟩
    have hjl := (List.getElem?_eq_some_iff.1 hj).1
    have hi : j < len := by simpa using hjl
    have : u = strv (f j) := by simpa [hi] using hj.symm
    subst this
    exact hf j hi

theorem own : ownKnob Tryz.prog.godebug = none := by kernel_rfl
theorem laidOut : laidOutB Tryz.prog = true := by kernel_rfl

set_option maxRecDepth 100000 in
theorem liftedLoads (os : Os) (started : os.Started) (H : Type) (enc : TypeId × Value → H) :
    ReturnsInHanded {} Tryz.checked os F.«revertlaw17_PoolLoads» .any (Rows.poolLoadsSpec.pre6 enc Tryz.prog Tryz.f4 Rows.poolLoadsRow.domain false) (Rows.poolLoadsSpec.post enc Tryz.prog Tryz.f4 false true false false) := by
  refine returnsInHanded_of_change (C := Tryz.checked) own started (by kernel_rfl) Tryz.func4
    (ChangeSpec.witness6 (enc := enc) (C := Tryz.checked) false ⟨#[], #[.slice none 0 0, .int .u32 0, .slice none 0 0], []⟩ 8 (by kernel_rfl) (by kernel_rfl) (by kernel_rfl) (by kernel_rfl)) ?_
  intro W base args ds gs before hval0 hW hcnd _
  have hval : ∀ (j : Nat) t v, Tryz.f4.params[j]? = some t → args[j]? = some v → Value.okWide Tryz.prog W .any base t v := hval0
  have hW' := hW
  obtain ⟨p, q, hA0, hV, rfl, hfz, hnd⟩ := hW
  have hA : DataW.TrodAll enc Tryz.prog W 0 (fun _ => true) true Tryz.f4.params.toList args.toList ds p := hA0
  rw [Tryz.params4] at hA hval
  obtain ⟨v0, v1, v2, d0, d1, d2, p0, p1, p2, rfl, rfl, rfl, h0, h1, h2⟩ := trodAll_three hA
  obtain ⟨rfl, rfl⟩ := trodVars_none hV
  have lt0 : ∀ x ∈ p0, x.block < W.heap.size := by obtain ⟨m, hm⟩ := h0; exact DataW.trod_lt m _ _ _ hm
  have lt1 : ∀ x ∈ p1, x.block < W.heap.size := by obtain ⟨m, hm⟩ := h1; exact DataW.trod_lt m _ _ _ hm
  have lt2 : ∀ x ∈ p2, x.block < W.heap.size := by obtain ⟨m, hm⟩ := h2; exact DataW.trod_lt m _ _ _ hm
  obtain ⟨a0, len0, cap0, rfl⟩ := okWide_slice Tryz.underlying46 (hval 0 T.«l_pool_Chunk» v0 rfl rfl)
  obtain ⟨n1, rfl⟩ := okWide_int Tryz.underlying48 (hval 1 T.«u32» v1 rfl rfl)
  obtain ⟨a2, len2, cap2, rfl⟩ := okWide_slice Tryz.underlying41 (hval 2 T.«l_string» v2 rfl rfl)
  obtain ⟨f0, hf0⟩ := id h0
  obtain ⟨f1, hf1⟩ := id h1
  obtain ⟨f2, hf2⟩ := id h2
  obtain ⟨a, n, c, A, hcs, hsrc, hlt, hids⟩ := open_pcs hf0
  simp only [Value.cells, List.cons.injEq, Value.slice.injEq, and_true] at hcs
  obtain ⟨rfl, rfl, rfl⟩ := hcs
  obtain ⟨a', n', c', A', hcs', hsrc'⟩ := open_strs hf2
  simp only [Value.cells, List.cons.injEq, Value.slice.injEq, and_true] at hcs'
  obtain ⟨rfl, rfl, rfl⟩ := hcs'
  obtain ⟨nn, hcn, -, wn⟩ := DataW.trod_int Tryz.underlying48 hf1
  simp only [Value.cells, List.cons.injEq, Value.int.injEq, true_and, and_true] at hcn
  subst hcn
  clear hA0 hval0
  refine (c_PoolLoads hsrc hsrc' hlt hids n1 (wfU32 wn)).mono fun e W' ⟨he, hk⟩ => ?_
  subst he
  have bel : Below W.heap.size W W' := hk.below (Nat.le_refl _) fun _ _ h => h
  exact ⟨_, rfl, _, _, _, [], _, [], hW', trodAll_mk1 (shut_bool Tryz.underlying4 _),
    (trodAll_cons_mk (Below.trod laidOut (by kernel_rfl) (of_decide_eq_true (by kernel_rfl)) h0 bel lt0) (trodAll_cons_mk (Below.trod laidOut (by kernel_rfl) (of_decide_eq_true (by kernel_rfl)) h1 bel lt1) (trodAll_cons_mk (Below.trod laidOut (by kernel_rfl) (of_decide_eq_true (by kernel_rfl)) h2 bel lt2) trodAll_mk0))), rfl, bel.frame _, fun h => by cases h⟩

theorem overLoads : Rows.poolLoadsRow.holds Tryz.pinned (OpenSpec.ofChange Rows.poolLoadsSpec) :=
  OpenClaim.holds_of_wide F.«revertlaw17_PoolLoads» Tryz.f4 rfl rfl rfl rfl rfl rfl rfl ⟨rfl, rfl, rfl, rfl, rfl⟩ rfl rfl rfl rfl rfl (by kernel_rfl) Tryz.func4 (by kernel_rfl)
    (of_decide_eq_true (by kernel_rfl)) (by unfold Func.isWrapper; first | (rw [if_pos (by decide +kernel)]; kernel_rfl) | (rw [if_neg (by decide +kernel)]; exact ⟨rfl, rfl⟩))
    (fun os started H enc _ => liftedLoads os started H enc)

end Go.Proofs.YtgepmlgkeljelaaGreat.Vc
namespace Go.Proofs.YtgepmlgkeljelaaGreat
/-- THE ROW. -/
theorem poolLoads_holds : Rows.PoolLoadsSaid := Vc.overLoads
#print axioms poolLoads_holds
end Go.Proofs.YtgepmlgkeljelaaGreat
