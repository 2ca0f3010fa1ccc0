/- Package dedup: All; the law's 'listed'. -/
import Derived.Test.YtgepmlgkeljelaaGreatDdSeq
namespace Go.Proofs.YtgepmlgkeljelaaGreat.Vc
open Go Go.Proofs

theorem eqIn_func_nil (w : World) (d : Nat) (t : TypeId) {ps rs v} (h : P.underlying t = some (.func ps rs v)) (f : Fn) (a b : Array Value) : (Op.equalIn (d + 1) t (.func f a b) .nilFunc).run P w = .ok false w := by
  simp [Op.equalIn, run_underlying h]
theorem eq_func_nil (w : World) (t : TypeId) {ps rs v} (h : P.underlying t = some (.func ps rs v)) (f : Fn) (a b : Array Value) : eqlRun P .eql t (.func f a b) .nilFunc w false := by
  intro xo yo w' _
  have h1 : (eqGuard .eql t xo yo (.func f a b) .nilFunc).run P w' = .ok () w' := rfl
  rw [Sem.run_bind, h1]
  simp only [Result.andThen, binOp]
  simp [Op.equal, Op.maxDepth, eqIn_func_nil w' 9999 t h f a b]

section
variable {w : World} {b bm bi : Nat} {sl : SlT} {L : List Chk} {nx : Int} {S SI : Nat → Prop}

theorem c_All (w : World) (t : Option Addr) : Calls P F.«dedup_Table_All» ⟨[.pointer t]⟩ w fun e w' => e = .returned (.func (.func F.«dedup_Table_All_1») ⟨[]⟩ ⟨[.pointer (some ⟨w.heap.size, 0, none⟩)]⟩) ∧ New w (.cells ⟨[.pointer t]⟩ T.«p_dedup_Table») w' := by
  refine ok_dedup_Table_All ?_
  unfold V_dedup_Table_All
  exact alloc_step fun u hu => ⟨rfl, hu⟩

theorem c_Sorted (hS : SortOk) {kb : Nat} {es : List MapEntry} {clk : Nat} (h : KeysAt w kb bm es clk L) (hw : WF L nx) : Calls P F.«slices_Sorted_uint32» ⟨[.func (.func F.«maps_Keys_map_uint32_dedup_chunk_uint32_dedup_chunk_1») ⟨[]⟩ ⟨[.pointer (some ⟨kb, 0, none⟩)]⟩]⟩ w fun e w' =>
    ∃ a' c', e = .returned (.slice a' (L.map (·.id)).length c') ∧ U32 w' a' c' (L.map (·.id)) ∧ Keep NoB w w' ∧ ∀ g, Blk a' g → w.heap.size ≤ g := by
  refine ok_slices_Sorted_uint32 ((c_Collect h).mono ?_)
  rintro _ w1 ⟨a1, c1, l, rfl, hp, h1, k1, b1⟩
  have hlen : l.length ≤ 100000 := by have := hp.length_eq; have := h.len; simp at *; omega
  refine ⟨_, _, _, rfl, (hS w1 a1 c1 l h1 hlen).mono ?_⟩
  rintro _ w2 ⟨rfl, l', hp', hs, h2, k2⟩
  have hs' : (L.map (·.id)).Pairwise (· ≤ ·) := List.pairwise_map.2 (hw.sorted.imp fun h => by omega)
  have hl : l' = L.map (·.id) := List.Perm.eq_of_pairwise (fun _ _ _ _ h1 h2 => by omega) hs hs' (hp'.trans hp)
  subst hl
  have hlen2 := hp'.length_eq
  refine ⟨rfl, a1, c1, by rw [hlen2], h2, k1.trans k2 fun g hg hb => by have := b1 g hb; omega, b1⟩

/-- The iterator of All. -/
theorem c_All1 (hS : SortOk) {cb : Nat} {y : Value} {Y : Nat → Prop} {Inv : (Nat → Prop) → List Int → World → Prop} {Stop : World → Prop} (h : DP w b bm bi sl L nx S SI) (hcb : w.heap[cb]? = some (.cells ⟨[.pointer (some ⟨b, 0, none⟩)]⟩ T.«p_dedup_Table»))
    (hy : Yields y w Y (fun seen id => ∃ rest, seen ++ id :: rest = L.map (·.id)) Inv Stop) :
    Calls P F.«dedup_Table_All_1» ⟨[y, .pointer (some ⟨cb, 0, none⟩)]⟩ w fun e w' => e = .returned (.tuple ⟨[]⟩) ∧ (Inv NoB (L.map (·.id)) w' ∨ Stop w') := by
  refine ok_dedup_Table_All_1 ⟨_, cell_at0 hcb rfl, (c_is h).mono ?_⟩
  rintro _ _ ⟨rfl, rfl⟩
  refine ⟨_, rfl, bcase_mk (fun hb => by cases hb) (fun _ => ⟨_, cell_at0 hcb rfl, _, h.c0, ?_⟩)⟩
  refine ok_maps_Keys_map_uint32_dedup_chunk_uint32_dedup_chunk ?_
  unfold V_maps_Keys_map_uint32_dedup_chunk_uint32_dedup_chunk
  refine alloc_step fun u1 n1 => ⟨_, rfl, ?_⟩
  have h1 := h.keep n1.keep fun _ _ h => h
  obtain ⟨es, clk, hm, he⟩ := h1.map
  refine (c_Sorted hS ⟨n1.at_, hm, he, h.len⟩ h.wf).mono ?_
  rintro _ w2 ⟨a, c, rfl, hr, k2, hb2⟩
  have k02 : Keep NoB w w2 := n1.keep.trans k2 fun _ _ h => h
  have z1 := n1.size
  have hll := hr.len_le
  refine ⟨_, _, _, rfl, fun t w' => ∃ i : Nat, t.1 = i ∧ i ≤ (L.map (·.id)).length ∧ Inv (Blk a) ((L.map (·.id)).take i) w' ∧ U32 w' a c (L.map (·.id)), fun t _ => (L.map (·.id)).length - t.1.toNat,
    ⟨0, rfl, by omega, by rw [List.take_zero]; exact hy.init _ _ k02 fun g hg => ⟨by have := hb2 g hg; omega, Sl.lt hr hg⟩, hr⟩, ?_⟩
  rintro _ _ w3 ⟨i, rfl, hi, hinv, hr3⟩
  refine bcase_mk (fun hb => ?_) (fun hb => ?_)
  · have hlt : i < (L.map (·.id)).length := by have := of_decide_eq_true hb; omega
    have hx : (L.map (·.id))[i]? = some (L.map (·.id))[i] := List.getElem?_eq_getElem hlt
    obtain ⟨g, rfl, hc⟩ := hr3.cell hx
    refine ⟨⟨by omega, by omega⟩, _, hc, callV.mono (hy.step _ _ _ w3 hinv ⟨(L.map (·.id)).drop (i + 1), ?_⟩) ?_⟩
    · rw [← List.drop_eq_getElem_cons hlt, List.take_append_drop]
    · rintro _ w4 ⟨bb, rfl, ht, hf⟩
      refine ⟨_, rfl, bcase_mk (fun hbb => ⟨rfl, .inr (hf (by simpa using hbb))⟩) (fun hbb => ?_)⟩
      obtain ⟨i4, q4⟩ := ht (by simpa using hbb)
      rw [wrap64 (by omega) (by omega)]
      refine ⟨⟨i + 1, by simp, by omega, ?_, Sl.same hr3 fun g hg => q4 g hg⟩, by show (L.map (·.id)).length - ((i : Int) + 1).toNat < (L.map (·.id)).length - (i : Int).toNat; omega⟩
      rw [List.take_add_one, hx]; exact i4
  · have hge : i = (L.map (·.id)).length := by have := of_decide_eq_false hb; omega
    subst hge
    refine ⟨rfl, .inl ?_⟩
    rw [List.take_length] at hinv
    exact hy.less _ _ _ hinv

end

end Go.Proofs.YtgepmlgkeljelaaGreat.Vc
