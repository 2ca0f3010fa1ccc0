/- Package dedup: All; the law's 'listed'. -/
import Derived.Test.YtgepmlgkeljelaaDdSeq
namespace Go.Proofs.Ytgepmlgkeljelaa.Vc
open Go Go.Proofs

theorem eqIn_func_nil (w : World) (d : Nat) (t : TypeId) {ps rs v} (h : P.underlying t = some (.func ps rs v)) (f : Fn) (a b : Array Value) : (Op.equalIn (d + 1) t (.func f a b) .nilFunc).run P w = .ok false w := by
  simp [Op.equalIn, run_underlying h]
theorem eq_func_nil (w : World) (t : TypeId) {ps rs v} (h : P.underlying t = some (.func ps rs v)) (f : Fn) (a b : Array Value) : eqlRun P .eql t (.func f a b) .nilFunc w false := by
  intro xo yo w' _
  have h1 : (eqGuard .eql t xo yo (.func f a b) .nilFunc).run P w' = .ok () w' := rfl
  rw [Sem.run_bind, h1]
  simp only [Result.andThen, binOp]
  simp [Op.equal, Op.maxDepth, eqIn_func_nil w' 9999 t h f a b]

section
variable {w : World} {b bm bi : Nat} {sl : SlT} {L : List Chk} {nx : Int} {S SI : Nat → Prop}

theorem c_All (w : World) (t : Option Addr) : Calls P F.«dedup_Table_All» ⟨[.pointer t]⟩ w fun e w' => e = .returned (.func (.func F.«dedup_Table_All_1») ⟨[]⟩ ⟨[.pointer (some ⟨w.heap.size, 0, none⟩)]⟩) ∧ New w (.cells ⟨[.pointer t]⟩ T.«p_dedup_Table») w' := by
  refine ok_dedup_Table_All ?_
  unfold V_dedup_Table_All
  exact alloc_step fun u hu => ⟨rfl, hu⟩

theorem c_Sorted (hS : SortOk) {kb : Nat} {es : List MapEntry} {clk : Nat} (h : KeysAt w kb bm es clk L) (hw : WF L nx) : Calls P F.«slices_Sorted_uint32» ⟨[.func (.func F.«maps_Keys_map_uint32_dedup_chunk_uint32_dedup_chunk_1») ⟨[]⟩ ⟨[.pointer (some ⟨kb, 0, none⟩)]⟩]⟩ w fun e w' =>
    ∃ a' c', e = .returned (.slice a' (L.map (·.id)).length c') ∧ U32 w' a' c' (L.map (·.id)) ∧ Keep NoB w w' ∧ ∀ g, Blk a' g → w.heap.size ≤ g := by
  refine ok_slices_Sorted_uint32 ((c_Collect h).mono ?_)
  rintro _ w1 ⟨a1, c1, l, rfl, hp, h1, k1, b1⟩
  have hlen : l.length ≤ 100000 := by have := hp.length_eq; have := h.len; simp at *; omega
  refine ⟨_, _, _, rfl, (hS w1 a1 c1 l h1 hlen).mono ?_⟩
  rintro _ w2 ⟨rfl, l', hp', hs, h2, k2⟩
  have hs' : (L.map (·.id)).Pairwise (· ≤ ·) := List.pairwise_map.2 (hw.sorted.imp fun h => by omega)
  have hl : l' = L.map (·.id) := List.Perm.eq_of_pairwise (fun _ _ _ _ h1 h2 => by omega) hs hs' (hp'.trans hp)
  subst hl
  have hlen2 := hp'.length_eq
  refine ⟨rfl, a1, c1, by rw [hlen2], h2, k1.trans k2 fun g hg hb => by have := b1 g hb; omega, b1⟩

/-- The iterator of All. -/
theorem c_All1 (hS : SortOk) {cb : Nat} {y : Value} {Y : Nat → Prop} {Inv : (Nat → Prop) → List Int → World → Prop} {Stop : World → Prop} (h : DP w b bm bi sl L nx S SI) (hcb : w.heap[cb]? = some (.cells ⟨[.pointer (some ⟨b, 0, none⟩)]⟩ T.«p_dedup_Table»))
    (hy : Yields y w Y (fun seen id => ∃ rest, seen ++ id :: rest = L.map (·.id)) Inv Stop) :
    Calls P F.«dedup_Table_All_1» ⟨[y, .pointer (some ⟨cb, 0, none⟩)]⟩ w fun e w' => e = .returned (.tuple ⟨[]⟩) ∧ (Inv NoB (L.map (·.id)) w' ∨ Stop w') := by
  refine ok_dedup_Table_All_1 ⟨_, cell_at0 hcb rfl, (c_is h).mono ?_⟩
  rintro _ _ ⟨rfl, rfl⟩
  refine ⟨_, rfl, bcase_mk (fun hb => by cases hb) (fun _ => ⟨_, cell_at0 hcb rfl, _, h.c0, ?_⟩)⟩
  refine ok_maps_Keys_map_uint32_dedup_chunk_uint32_dedup_chunk ?_
  unfold V_maps_Keys_map_uint32_dedup_chunk_uint32_dedup_chunk
  refine alloc_step fun u1 n1 => ⟨_, rfl, ?_⟩
  have h1 := h.keep n1.keep fun _ _ h => h
  obtain ⟨es, clk, hm, he⟩ := h1.map
  refine (c_Sorted hS ⟨n1.at_, hm, he, h.len⟩ h.wf).mono ?_
  rintro _ w2 ⟨a, c, rfl, hr, k2, hb2⟩
  have k02 : Keep NoB w w2 := n1.keep.trans k2 fun _ _ h => h
  have z1 := n1.size
  have hll := hr.len_le
  refine ⟨_, _, _, rfl, fun t w' => ∃ i : Nat, t.1 = i ∧ i ≤ (L.map (·.id)).length ∧ Inv (Blk a) ((L.map (·.id)).take i) w' ∧ U32 w' a c (L.map (·.id)), fun t _ => (L.map (·.id)).length - t.1.toNat,
    ⟨0, rfl, by omega, by rw [List.take_zero]; exact hy.init _ _ k02 fun g hg => ⟨by have := hb2 g hg; omega, Sl.lt hr hg⟩, hr⟩, ?_⟩
  rintro _ _ w3 ⟨i, rfl, hi, hinv, hr3⟩
  refine bcase_mk (fun hb => ?_) (fun hb => ?_)
  · have hlt : i < (L.map (·.id)).length := by have := of_decide_eq_true hb; omega
    have hx : (L.map (·.id))[i]? = some (L.map (·.id))[i] := List.getElem?_eq_getElem hlt
    obtain ⟨g, rfl, hc⟩ := hr3.cell hx
    refine ⟨⟨by omega, by omega⟩, _, hc, callV.mono (hy.step _ _ _ w3 hinv ⟨(L.map (·.id)).drop (i + 1), ?_⟩) ?_⟩
    · rw [← List.drop_eq_getElem_cons hlt, List.take_append_drop]
    · rintro _ w4 ⟨bb, rfl, ht, hf⟩
      refine ⟨_, rfl, bcase_mk (fun hbb => ⟨rfl, .inr (hf (by simpa using hbb))⟩) (fun hbb => ?_)⟩
      obtain ⟨i4, q4⟩ := ht (by simpa using hbb)
      rw [wrap64 (by omega) (by omega)]
      refine ⟨⟨i + 1, by simp, by omega, ?_, Sl.same hr3 fun g hg => q4 g hg⟩, by show (L.map (·.id)).length - ((i : Int) + 1).toNat < (L.map (·.id)).length - (i : Int).toNat; omega⟩
      rw [List.take_add_one, hx]; exact i4
  · have hge : i = (L.map (·.id)).length := by have := of_decide_eq_false hb; omega
    subst hge
    refine ⟨rfl, .inl ?_⟩
    rw [List.take_length] at hinv
    exact hy.less _ _ _ hinv

/-- The law's 'listed': both tables have the same ids. -/
theorem c_listed (hS : SortOk) {rb rc : Nat} {ra : Option Addr} {Sr : Nat → Prop} (h : DP w b bm bi sl L nx S SI) (hr : RT w rb ra rc L nx Sr) :
    Calls P F.«revertlaw16_listed» ⟨[.pointer (some ⟨b, 0, none⟩), .pointer (some ⟨rb, 0, none⟩)]⟩ w fun e w' => e = .returned (.bool true) ∧ Keep NoB w w' := by
  refine ok_revertlaw16_listed ?_
  unfold V_revertlaw16_listed
  refine alloc_step fun u0 n0 => alloc_step fun u1 n1 => (c_All u1 _).mono ?_
  rintro _ u2 ⟨rfl, n2⟩
  refine ⟨_, rfl, false, eq_func_nil _ _ Try.underlying54 _ _ _, bcase_mk (fun h => by cases h) (fun _ => ?_)⟩
  refine alloc_step fun u3 n3 => store_step n3.at_ (by simp) fun u4 s4 => ?_
  show bW true _
  intro y rec rounds
  have n4 := Set1.new n3 s4
  have n5 := New.mk' u4 (.deferred (some []))
  generalize u4.alloc (.deferred (some [])) = u5 at n5
  have n6 := New.mk' u5 (rec .ready none)
  generalize u5.alloc (rec .ready none) = u6 at n6
  have z0 := n0.size
  have z1 := n1.size
  have z2 := n2.size
  have z4 := n4.size
  have z5 := n5.size
  have z6 := n6.size
  have k04 : Keep NoB w u4 := ((n0.keep.trans n1.keep fun _ _ h => h).trans n2.keep fun _ _ h => h).trans n4.keep fun _ _ h => h
  have k46 : Keep NoB u4 u6 := n5.keep.trans n6.keep fun _ _ h => h
  have k06 : Keep NoB w u6 := k04.trans k46 fun _ _ h => h
  have box6 : u6.heap[w.heap.size]? = _ := k46.at_ (n4.keep.at_ (n2.keep.at_ (n1.keep.at_ n0.at_ (fun h => h)) (fun h => h)) (fun h => h)) (fun h => h)
  have res6 : u6.heap[u0.heap.size]? = _ := k46.at_ (n4.keep.at_ (n2.keep.at_ n1.at_ (fun h => h)) (fun h => h)) (fun h => h)
  have cap6 : u6.heap[u1.heap.size]? = _ := k46.at_ (n4.keep.at_ n2.at_ (fun h => h)) (fun h => h)
  have cnt6 : u6.heap[u2.heap.size]? = _ := k46.at_ n4.at_ (fun h => h)
  have def6 : u6.heap[u4.heap.size]? = _ := n6.keep.at_ n5.at_ (fun h => h)
  have rec6 : u6.heap[u4.heap.size + 1]? = some (rec .ready none) := by rw [← z5]; exact n6.at_
  have hrr := hr.len_le
  have hrlt := hr.lt
  let Inv : (Nat → Prop) → List Int → World → Prop := fun Q seen w' =>
    w'.heap[u2.heap.size]? = some (.cells ⟨[.int .i64 (seen.length : Nat)]⟩ T.«i64'») ∧ w'.heap[u4.heap.size + 1]? = some (rec .ready none) ∧
      Keep (fun g => g = u2.heap.size ∨ g = u4.heap.size + 1) u6 w' ∧ ∀ g, Q g → u6.heap.size ≤ g ∧ g < w'.heap.size
  have hy : Yields y u6 (fun g => g = u2.heap.size ∨ g = u4.heap.size + 1) (fun seen id => ∃ rest, seen ++ id :: rest = L.map (·.id)) Inv (fun _ => False) := by
    refine ⟨fun Q w' hk hQ => ⟨hk.at_ cnt6 (fun h => h), hk.at_ rec6 (fun h => h), hk.mono fun _ _ h => h.elim, hQ⟩, ?_, fun Q seen w' ⟨_, _, h, _⟩ => h, fun Q seen w' ⟨h1, h2, h3, _⟩ => ⟨h1, h2, h3, fun g hg => hg.elim⟩, ?_⟩
    · rintro Q seen w1 w2 ⟨h1, h2, h3, h4⟩ hk
      have nq : ∀ g, g < u6.heap.size → ¬ Q g := fun g hg hq => by have := (h4 g hq).1; omega
      exact ⟨hk.at_ h1 (nq _ (by omega)), hk.at_ h2 (nq _ (by omega)), h3.trans hk fun g hg hq => absurd hq (nq g hg), fun g hg => ⟨(h4 g hg).1, by have := (h4 g hg).2; have := hk.size; omega⟩⟩
    · rintro Q seen id w1 ⟨h1, h2, h3, h4⟩ ⟨rest, hrest⟩
      have nq : ∀ g, g < u6.heap.size → ¬ Q g := fun g hg hq => by have := (h4 g hq).1; omega
      have hlen : seen.length < L.length := by have := congrArg List.length hrest; simp at this; omega
      have hxi : L[seen.length]? = some L[seen.length] := List.getElem?_eq_getElem hlen
      have hid : L[seen.length].id = id := by
        have : (L.map (·.id))[seen.length]? = some id := by rw [← hrest]; simp
        simpa [hxi] using this
      refine rounds _ id w1 h2 ⟨h2, put_step h2 fun w2 s2 => ?_⟩
      have hsz := h3.size
      have k62 : Keep (fun g => g = u2.heap.size ∨ g = u4.heap.size + 1) u6 w2 := h3.trans s2.keep fun g _ e => .inr e
      have hr2 : RT w2 rb ra rc L nx Sr := (hr.keep k06 fun _ _ h => h).keep k62 fun g hg => by have := hrlt g hg; rintro (e | e) <;> omega
      have box2 := k62.at_ box6 (by rintro (e | e) <;> omega)
      have cnt2 := s2.keep.at_ h1 (show ¬ u2.heap.size = u4.heap.size + 1 by omega)
      obtain ⟨g, rfl, hcell⟩ := hr2.cell hxi
      refine ⟨_, cell_at0 cnt2 rfl, _, cell_at0 box2 rfl, _, _, _, hr2.slice, bcase_mk (fun hb => by have := of_decide_eq_true hb; omega) (fun _ => ⟨_, cell_at0 box2 rfl, _, _, _, hr2.slice, _, cell_at0 cnt2 rfl, ⟨by omega, by omega⟩, _, hcell 0 _ rfl, fun w3 hd => ?_⟩)⟩
      refine bcase_mk (fun hb => ?_) (fun _ => ⟨_, cell_at0 (hd.at_ cnt2) rfl, store_step (hd.at_ cnt2) (by simp) fun w4 s4 => ?_⟩)
      · rw [hid] at hb; simp at hb
      · rw [wrap64 (by omega) (by omega)] at s4
        have rec4 := s4.keep.at_ (hd.at_ s2.at_) (show ¬ u4.heap.size + 1 = u2.heap.size by omega)
        have s5 := Set1.mk' (o := rec .ready none) rec4
        refine ⟨rec4, true, rfl, fun _ => ?_, fun h => by cases h⟩
        generalize hw5 : ({ w4 with heap := w4.heap.setIfInBounds (u4.heap.size + 1) (rec .ready none) } : World) = w5 at s5
        have e5 : w4.putObj (u4.heap.size + 1) (rec .ready none) = w5 := hw5
        show Inv Q (seen ++ [id]) (w4.putObj _ _) ∧ ∀ g, Q g → (w4.putObj _ _).heap[g]? = w1.heap[g]?
        rw [e5]
        have k15 : Keep (fun g => g = u2.heap.size ∨ g = u4.heap.size + 1) w1 w5 :=
          (((s2.keep.mono fun g _ e => .inr e).trans (Keep.drew _ hd) fun _ _ h => h).trans s4.keep fun g _ e => .inl e).trans s5.keep fun g _ e => .inr e
        refine ⟨⟨?_, s5.at_, h3.trans k15 fun _ _ h => h, fun g hg => ⟨(h4 g hg).1, by have := (h4 g hg).2; have := k15.size; omega⟩⟩, fun g hg => k15.block g (h4 g hg).2 fun hx => ?_⟩
        · have := s5.keep.at_ s4.at_ (show ¬ u2.heap.size = u4.heap.size + 1 by omega)
          rw [this]
          simp
        · have := (h4 g hg).1; rcases hx with hx | hx <;> omega
  have h6 := h.keep k06 fun _ _ h => h
  refine (c_All1 hS h6 cap6 hy).mono ?_
  rintro _ w3 ⟨rfl, ⟨h1, h2, h3, _⟩ | hF⟩
  · refine ⟨⟨_, rfl⟩, .inl ⟨.ready, by decide, h2, put_step h2 fun w4 s4 => ?_⟩⟩
    have k64 : Keep (fun g => g = u2.heap.size ∨ g = u4.heap.size + 1) u6 w4 := h3.trans s4.keep fun g _ e => .inr e
    have hr4 : RT w4 rb ra rc L nx Sr := (hr.keep k06 fun _ _ h => h).keep k64 fun g hg => by have := hrlt g hg; rintro (e | e) <;> omega
    have box4 := k64.at_ box6 (by rintro (e | e) <;> omega)
    have cnt4 := s4.keep.at_ h1 (show ¬ u2.heap.size = u4.heap.size + 1 by omega)
    refine ⟨_, cell_at0 cnt4 rfl, _, cell_at0 box4 rfl, _, _, _, hr4.slice, fun w5 hd => ?_⟩
    have res5 := hd.at_ (k64.at_ res6 (by rintro (e | e) <;> omega))
    refine store_step res5 (by simp) fun w6 s6 => ?_
    have def6' := s6.keep.at_ (hd.at_ (k64.at_ def6 (by rintro (e | e) <;> omega))) (show ¬ u4.heap.size = u0.heap.size by omega)
    refine ⟨def6', put_step def6' fun w7 s7 => ⟨true, ?_, rfl, ?_⟩⟩
    · refine cell_at0 (s7.keep.at_ s6.at_ (show ¬ u0.heap.size = u4.heap.size by omega)) ?_
      simp
    · refine ((((k06.trans k64 fun g hg e => ?_).trans (Keep.drew _ hd) fun _ _ h => h).trans s6.keep fun g hg e => ?_).trans s7.keep fun g hg e => ?_)
      · rcases e with e | e <;> omega
      · have : g = u0.heap.size := e; omega
      · have : g = u4.heap.size := e; omega
  · exact hF.elim
end

end Go.Proofs.Ytgepmlgkeljelaa.Vc
