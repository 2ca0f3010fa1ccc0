/- revertlaw16.DedupPlays answers true at every input, and leaves its argument as it read: no condition. -/
import Derived.Test.YtgepmlgkeljelaaRows
import Derived.Test.YtgepmlgkeljelaaDdMain
import Derived.Test.YtgepmlgkeljelaaDdSort7
import Derived.ProofKit
import Derived.Deep.Slices
import Derived.OpenShut
namespace Go.Proofs.Ytgepmlgkeljelaa.Vc
open Go Go.ChangeShapes Go.WideShapes Go.ChangeAt Go.RowKit

instance : Inhabited ActV := ⟨⟨0, 0, ByteArray.empty, 0, 0, 0, ByteArray.empty⟩⟩

theorem wfU32 {n : Int} (h : (Lit.int .u32 n).wf = true) : 0 ≤ n ∧ n ≤ 4294967295 := by
  have e1 : IntKind.u32.min = 0 := rfl
  have e2 : IntKind.u32.max = 4294967295 := rfl
  simp [Lit.wf, e1, e2] at h
  omega

set_option maxRecDepth 100000 in
theorem open_act {H : Type} {enc : TypeId × Value → H} {W : World} {sp : Nat → Bool} {hd : Bool} {fuel : Nat} {cs : List Value} {y : DataW H × List MemPlace} (h : DataW.trod enc Try.prog W 0 sp hd fuel T.«revertlaw16_Act» cs = some y) :
    ∃ x : ActV, cs = encA x ∧ (0 ≤ x.id ∧ x.id ≤ 4294967295) ∧ 0 ≤ x.ask ∧ x.ask ≤ 4294967295 := by
  obtain ⟨xs, k, hk, hxy, hlen, hxl, hf⟩ := DataW.trod_struct (t := T.«revertlaw16_Act») Try.underlying31 h
  have hlen : cs.length = 7 := hlen.trans (by kernel_rfl)
  match cs, hlen with
  | [v0, v1, v2, v3, v4, v5, v6], _ =>
    have hx : xs.length = 7 := hxl
    match xs, hx with
    | [y0, y1, y2, y3, y4, y5, y6], _ =>
      have c5 : Try.prog.cellsOf 5 = 1 := by kernel_rfl
      have c29 : Try.prog.cellsOf 29 = 1 := by kernel_rfl
      have c9 : Try.prog.cellsOf 9 = 1 := by kernel_rfl
      have c3 : Try.prog.cellsOf 3 = 1 := by kernel_rfl
      have g0 := hf 0 _ rfl
      have g1 := hf 1 _ rfl
      have g2 := hf 2 _ rfl
      have g3 := hf 3 _ rfl
      have g4 := hf 4 _ rfl
      have g5 := hf 5 _ rfl
      have g6 := hf 6 _ rfl
      simp [c5, c29, c9, c3] at g0 g1 g2 g3 g4 g5 g6
      obtain ⟨n0, e0, -, -⟩ := DataW.trod_int Try.underlying5 g0
      obtain ⟨n1, e1, -, w1⟩ := DataW.trod_int Try.underlying29 g1
      obtain ⟨s2, e2, -, -⟩ := DataW.trod_string Try.underlying9 g2
      obtain ⟨n3, e3, -, -⟩ := DataW.trod_int Try.underlying3 g3
      obtain ⟨n4, e4, -, -⟩ := DataW.trod_int Try.underlying3 g4
      obtain ⟨n5, e5, -, w5⟩ := DataW.trod_int Try.underlying29 g5
      obtain ⟨s6, e6, -, -⟩ := DataW.trod_string Try.underlying9 g6
      cases e0; cases e1; cases e2; cases e3; cases e4; cases e5; cases e6
      exact ⟨⟨n0, n1, s2, n3, n4, n5, s6⟩, rfl, wfU32 w1, (wfU32 w5).1, (wfU32 w5).2⟩

theorem open_acts {H : Type} {enc : TypeId × Value → H} {W : World} {sp : Nat → Bool} {hd : Bool} {fuel : Nat} {cs : List Value} {y : DataW H × List MemPlace} (h : DataW.trod enc Try.prog W 0 sp hd fuel 22 cs = some y) :
    ∃ (a : Option Addr) (c : Nat) (A : List ActV), cs = [.slice a A.length c] ∧ ActsAt W a A ∧ ∀ x ∈ A, (0 ≤ x.id ∧ x.id ≤ 4294967295) ∧ 0 ≤ x.ask ∧ x.ask ≤ 4294967295 := by
  rcases Deep.open_slice Try.underlying22 h with ⟨rfl, _⟩ | ⟨a, len, cap, m, n, D, Pl, rfl, _, hl, hm, rfl, _, hx⟩
  · exact ⟨none, 0, [], rfl, .inl rfl, by simp⟩
  · have hlm : len ≤ (if sp a.block then cap else len) := by split <;> omega
    have c31 : Try.prog.cellsOf 31 = 7 := by kernel_rfl
    have each : ∀ i, i < len → ∃ x : ActV, (∀ j v, (encA x)[j]? = some v → W.cell? ((a.add (i * 7)).add j) = some v) ∧ (0 ≤ x.id ∧ x.id ≤ 4294967295) ∧ 0 ≤ x.ask ∧ x.ask ≤ 4294967295 := by
      intro i hi
      obtain ⟨cs', h1, h2⟩ := hx i (by omega)
      rw [c31] at h1
      obtain ⟨_, hlen, hcell⟩ := World.cells?_some h1
      obtain ⟨x, rfl, hb⟩ := open_act h2
      refine ⟨x, fun j v hj => ?_, hb⟩
      have hj7 : j < 7 := by have := (List.getElem?_eq_some_iff.1 hj).1; simpa [encA] using this
      exact (hcell j hj7).trans hj
    obtain ⟨f, hf⟩ := Deep.choose_lt each
    refine ⟨some a, cap, (List.range len).map f, by simp, .inr ⟨a, rfl, fun i x hi => ?_⟩, fun x hx => ?_⟩
    · have hlt : i < len := by have := (List.getElem?_eq_some_iff.1 hi).1; simpa using this
      have : x = f i := by simpa [hlt] using hi.symm
      subst this
      exact (hf i hlt).1
    · obtain ⟨i, hi, rfl⟩ := List.mem_map.1 hx
      exact (hf i (List.mem_range.1 hi)).2

theorem own : ownKnob Try.prog.godebug = none := by kernel_rfl
theorem laidOut : laidOutB Try.prog = true := by kernel_rfl

set_option maxRecDepth 100000 in
theorem lifted (os : Os) (started : os.Started) (H : Type) (enc : TypeId × Value → H) :
    ReturnsInHanded {} Try.checked os 3 .any (Rows.dedupPlaysSpec.pre6 enc Try.prog Try.f3 Rows.dedupPlaysRow.domain false) (Rows.dedupPlaysSpec.post enc Try.prog Try.f3 false true false false) := by
  refine returnsInHanded_of_change (C := Try.checked) own started (by kernel_rfl) Try.func3
    (ChangeSpec.witness6 (enc := enc) (C := Try.checked) false ⟨#[], #[.slice none 0 0], []⟩ 8 (by kernel_rfl) (by kernel_rfl) (by kernel_rfl) (by kernel_rfl)) ?_
  intro W base args ds gs before hval0 hW hcnd _
  have hval : ∀ (j : Nat) t v, Try.f3.params[j]? = some t → args[j]? = some v → Value.okWide Try.prog W .any base t v := hval0
  have hW' := hW
  obtain ⟨p, q, hA0, hV, rfl, hfz, hnd⟩ := hW
  have hA : DataW.TrodAll enc Try.prog W 0 (fun _ => true) true Try.f3.params.toList args.toList ds p := hA0
  rw [Try.params3] at hA hval
  obtain ⟨v0, d0, rfl, rfl, h0⟩ := trodAll_one hA
  obtain ⟨rfl, rfl⟩ := trodVars_none hV
  have k0 := h0
  have lt0 : ∀ x ∈ p, x.block < W.heap.size := by obtain ⟨m, hm⟩ := k0; exact DataW.trod_lt m _ _ _ hm
  obtain ⟨a0, len0, cap0, rfl⟩ := okWide_slice Try.underlying22 (hval 0 22 v0 rfl rfl)
  obtain ⟨fuel, hf⟩ := h0
  obtain ⟨a, c, A, hcs, hacts, hids⟩ := open_acts hf
  simp only [Value.cells, List.cons.injEq, Value.slice.injEq, and_true] at hcs
  obtain ⟨rfl, rfl, rfl⟩ := hcs
  clear hA0 hval0
  refine (c_DedupPlays sortOk hacts hids).mono fun e W' ⟨he, hk⟩ => ?_
  subst he
  have bel : Below W.heap.size W W' := hk.below (Nat.le_refl _) fun _ _ h => h
  exact ⟨_, rfl, _, _, _, [], _, [], hW', trodAll_mk1 (shut_bool Try.underlying4 _), (trodAll_cons_mk (Below.trod laidOut (by kernel_rfl) (of_decide_eq_true (by kernel_rfl)) k0 bel lt0) trodAll_mk0), rfl, bel.frame _, fun h => by cases h⟩

theorem over : Rows.dedupPlaysRow.holds Try.pinned (OpenSpec.ofChange Rows.dedupPlaysSpec) :=
  OpenClaim.holds_of_wide 3 Try.f3 rfl rfl rfl rfl rfl rfl rfl ⟨rfl, rfl, rfl, rfl, rfl⟩ rfl rfl rfl rfl rfl (by kernel_rfl) Try.func3 (by kernel_rfl)
    (of_decide_eq_true (by kernel_rfl)) (by unfold Func.isWrapper; first | (rw [if_pos (by decide +kernel)]; kernel_rfl) | (rw [if_neg (by decide +kernel)]; exact ⟨rfl, rfl⟩))
    (fun os started H enc _ => lifted os started H enc)

end Go.Proofs.Ytgepmlgkeljelaa.Vc
namespace Go.Proofs.Ytgepmlgkeljelaa
/-- THE ROW. -/
theorem dedupPlays_holds : Rows.DedupPlaysSaid := Vc.over
#print axioms dedupPlays_holds
end Go.Proofs.Ytgepmlgkeljelaa
