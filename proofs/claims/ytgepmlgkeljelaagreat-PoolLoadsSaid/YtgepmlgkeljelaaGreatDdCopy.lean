/- Package dedup: Copy. -/
import Derived.Test.YtgepmlgkeljelaaGreatDdAll
namespace Go.Proofs.YtgepmlgkeljelaaGreat.Vc
open Go Go.Proofs

section
variable {w : World} {b bm bi : Nat} {sl : SlT} {L : List Chk} {nx : Int} {S SI : Nat → Prop}

/-- A store into the table's own cell 'next'. -/
theorem DP.setNext {u : World} {nx' : Int} (h : DP w b bm bi sl L nx S SI) (hu : Set1 w b (.cells ⟨[.map (some bm), .pointer (some ⟨bi, 0, none⟩), .int .u32 nx']⟩ T.«dedup_Table») u) (hw : WF L nx') : DP u b bm bi sl L nx' S SI := by
  obtain ⟨es, clk, hm, he⟩ := h.map
  obtain ⟨ids, hi, hb⟩ := h.index
  exact ⟨hu.at_, ⟨es, clk, hu.keep.at_ hm (fun e => h.ne (show b = bm from (show bm = b from e).symm)), he⟩, ⟨ids, hi.keep hu.keep fun g hg e => h.sep.1 (show SI b from (show g = b from e) ▸ hg), hb⟩, h.own, h.sep, fun g hg => by rw [hu.size]; exact h.lt g hg, hw, h.len⟩

theorem WF.take {i : Nat} (h : WF L nx) : WF (L.take i) nx :=
  ⟨h.sorted.sublist (List.take_sublist i L), h.data.sublist (List.take_sublist i L), fun c hc => h.rng c (List.mem_of_mem_take hc), h.nx⟩

theorem c_Copy (hS : SortOk) (h : DP w b bm bi sl L nx S SI) (hlen : L.length < 1000) : Calls P F.«dedup_Table_Copy» ⟨[.pointer (some ⟨b, 0, none⟩)]⟩ w fun e w' =>
    ∃ b', e = .returned (.pointer (some ⟨b', 0, none⟩)) ∧ Keep NoB w w' ∧ w.heap.size ≤ b' ∧ DT w' b' L nx (Ext NoB w w') := by
  refine ok_dedup_Table_Copy ?_
  unfold V_dedup_Table_Copy
  refine alloc_step fun u0 n0 => ⟨_, cell_at0 n0.at_ rfl, ?_⟩
  have h0 := h.keep n0.keep fun _ _ h => h
  refine (c_is h0).mono ?_
  rintro _ _ ⟨rfl, rfl⟩
  refine ⟨_, rfl, bcase_mk (fun hb => by cases hb) (fun _ => (c_New u0).mono ?_)⟩
  rintro _ u1 ⟨b', rfl, k1, hb', hT⟩
  refine ⟨_, rfl, alloc_step fun u2 n2 => store_step n2.at_ (by simp) fun u3 s3 => ?_⟩
  have n3 := Set1.new n2 s3
  have z0 := n0.size
  have z1 := k1.size
  have z3 := n3.size
  have k03 : Keep NoB w u3 := (n0.keep.trans k1 fun _ _ h => h).trans n3.keep fun _ _ h => h
  have box3 : u3.heap[w.heap.size]? = _ := n3.keep.at_ (k1.at_ n0.at_ (fun h => h)) (fun h => h)
  refine ⟨_, cell_at0 box3 rfl, (c_All u3 _).mono ?_⟩
  rintro _ u4 ⟨rfl, n4⟩
  refine ⟨_, rfl, ?_⟩
  show bW true _
  intro y rec rounds
  have n5 := New.mk' u4 (.deferred (some []))
  generalize u4.alloc (.deferred (some [])) = u5 at n5
  have n6 := New.mk' u5 (rec .ready none)
  generalize u5.alloc (rec .ready none) = u6 at n6
  have z4 := n4.size
  have z5 := n5.size
  have z6 := n6.size
  have k46 : Keep NoB u4 u6 := n5.keep.trans n6.keep fun _ _ h => h
  have k36 : Keep NoB u3 u6 := n4.keep.trans k46 fun _ _ h => h
  have k06 : Keep NoB w u6 := k03.trans k36 fun _ _ h => h
  have box6 : u6.heap[w.heap.size]? = _ := k36.at_ box3 (fun h => h)
  have new6 : u6.heap[u1.heap.size]? = _ := k36.at_ n3.at_ (fun h => h)
  have cap6 : u6.heap[u3.heap.size]? = _ := k46.at_ n4.at_ (fun h => h)
  have def6 : u6.heap[u4.heap.size]? = _ := n6.keep.at_ n5.at_ (fun h => h)
  have rec6 : u6.heap[u4.heap.size + 1]? = some (rec .ready none) := by rw [← z5]; exact n6.at_
  have h6 := h.keep k06 fun _ _ h => h
  have hCl : ∀ g, Ext NoB u0 u1 g → w.heap.size < g ∧ g < u1.heap.size := fun g hg => by
    rcases hg with hg | hg
    · exact hg.elim
    · exact ⟨by omega, hg.2⟩
  have hT6 : DT u6 b' [] 1 (Ext NoB u0 u1) := by
    obtain ⟨bm', bi', sl', SI', hp⟩ := hT
    exact ⟨bm', bi', sl', SI', hp.keep (n3.keep.trans k36 fun _ _ h => h) fun _ _ h => h⟩
  let Y : Nat → Prop := fun g => Ext NoB u0 u1 g ∨ g = u4.heap.size + 1
  let Inv : (Nat → Prop) → List Int → World → Prop := fun Q seen w' =>
    w'.heap[u4.heap.size + 1]? = some (rec .ready none) ∧ Keep Y u6 w' ∧ (∀ g, Q g → u6.heap.size ≤ g ∧ g < w'.heap.size) ∧
      ∃ S' nx', DT w' b' (L.take seen.length) nx' S' ∧ ∀ g, S' g → (Ext NoB u0 u1 g ∨ u6.heap.size ≤ g) ∧ ¬ Q g
  have nY : ∀ g, g < u6.heap.size → (w.heap.size ≤ g → g = w.heap.size ∨ u1.heap.size ≤ g) → g ≠ u4.heap.size + 1 → ¬ Y g := by
    rintro g hg h1 h2 (h3 | h3)
    · obtain ⟨h4, h5⟩ := hCl g h3
      rcases h1 (by omega) with h | h <;> omega
    · exact h2 h3
  have hy : Yields y u6 Y (fun seen id => ∃ rest, seen ++ id :: rest = L.map (·.id)) Inv (fun _ => False) := by
    refine ⟨fun Q w' hk hQ => ⟨hk.at_ rec6 (fun h => h), hk.mono fun _ _ h => h.elim, hQ, _, 1, ?_, fun g hg => ⟨.inl hg, fun hq => by have := hCl g hg; have := (hQ g hq).1; omega⟩⟩, ?_, fun Q seen w' ⟨_, h, _⟩ => h, fun Q seen w' ⟨h1, h2, h3, S', nx', h4, h5⟩ => ⟨h1, h2, fun g hg => hg.elim, S', nx', h4, fun g hg => ⟨(h5 g hg).1, fun h => h⟩⟩, ?_⟩
    · obtain ⟨bm', bi', sl', SI', hp⟩ := hT6
      exact ⟨bm', bi', sl', SI', hp.keep hk fun _ _ h => h⟩
    · rintro Q seen w1 w2 ⟨h1, h2, h3, S', nx', ⟨bm', bi', sl', SI', hp⟩, h5⟩ hk
      have nq : ∀ g, g < u6.heap.size → ¬ Q g := fun g hg hq => by have := (h3 g hq).1; omega
      exact ⟨hk.at_ h1 (nq _ (by omega)), h2.trans hk fun g hg hq => absurd hq (nq g hg), fun g hg => ⟨(h3 g hg).1, by have := (h3 g hg).2; have := hk.size; omega⟩, S', nx', ⟨bm', bi', sl', SI', hp.keep hk fun g hg => (h5 g hg).2⟩, h5⟩
    · rintro Q seen id w1 ⟨h1, h2, h3, S', nx', ⟨bm', bi', sl', SI', hp⟩, h5⟩ ⟨rest, hrest⟩
      have nq : ∀ g, g < u6.heap.size → ¬ Q g := fun g hg hq => by have := (h3 g hq).1; omega
      have hl : seen.length < L.length := by have := congrArg List.length hrest; simp at this; omega
      have hxi : L[seen.length]? = some L[seen.length] := List.getElem?_eq_getElem hl
      have hid : L[seen.length].id = id := by
        have : (L.map (·.id))[seen.length]? = some id := by rw [← hrest]; simp
        simpa [hxi] using this
      have hxm : L[seen.length] ∈ L := List.getElem_mem hl
      refine rounds _ id w1 h1 ⟨h1, put_step h1 fun w2 s2 => ?_⟩
      have hsz := h2.size
      have k62 : Keep Y u6 w2 := h2.trans s2.keep fun g _ e => .inr e
      have box2 := k62.at_ box6 (nY _ (by omega) (fun _ => .inl rfl) (by omega))
      have new2 := k62.at_ new6 (nY _ (by omega) (fun _ => .inr (Nat.le_refl _)) (by omega))
      have ht2 : DP w2 b bm bi sl L nx S SI := h6.keep k62 fun g hg => by have := h.lt g hg; exact nY _ (by omega) (fun _ => by omega) (by omega)
      obtain ⟨es, hm, hlk, hf⟩ := ht2.look id
      have hget : getC L id = some L[seen.length] := by rw [← hid]; exact getC_mem h.wf hxm
      refine ⟨_, cell_at0 new2 rfl, _, cell_at0 box2 rfl, _, ht2.c0, es, hm, hlk, L[seen.length].data, L[seen.length].block, L[seen.length].refs, true, by rw [hf, hget]; rfl, (fun hb => by cases hb), fun w3 hd => ?_⟩
      have hrec : ∀ g, S' g → g ≠ u4.heap.size + 1 := fun g hg e => by
        rcases (h5 g hg).1 with hc | hc
        · have := hCl g hc; omega
        · omega
      have hp3 : DP w3 b' bm' bi' sl' (L.take seen.length) nx' S' SI' := (hp.keep s2.keep fun g hg e => hrec g hg e).drew hd
      have hrng := h.wf.rng _ hxm
      have hnx := h.wf.nx
      have hltid : ∀ c ∈ L.take seen.length, c.id < L[seen.length].id := fun c hc => by
        obtain ⟨j, hj, rfl⟩ := List.getElem_of_mem hc
        have hj' : j < seen.length := by rw [List.length_take] at hj; omega
        rw [List.getElem_take]
        exact List.pairwise_iff_getElem.1 h.wf.sorted j seen.length (by omega) hl hj'
      have hdata : ∀ c ∈ L.take seen.length, c.data ≠ L[seen.length].data := fun c hc e => by
        have := h.wf.data_inj (List.mem_of_mem_take hc) hxm e
        have h1 := hltid c hc
        rw [this] at h1; omega
      have hput := c_put hp3 L[seen.length] (fun c hc e => by have := hltid c hc; omega) hdata ⟨hrng.1.1, by omega⟩ hrng.2.1 hrng.2.2 (by rw [List.length_take]; omega)
      rw [hid] at hput
      refine hput.mono ?_
      rintro _ w4 ⟨rfl, k4, hT4⟩
      have z23 : w3.heap.size = w1.heap.size := by rw [hd.size, s2.size]
      have rec4 := k4.at_ (hd.at_ s2.at_) (fun hs => hrec _ hs rfl)
      have s5 := Set1.mk' (o := rec .ready none) rec4
      refine ⟨rfl, rec4, true, rfl, fun _ => ?_, fun h => by cases h⟩
      generalize hw5 : ({ w4 with heap := w4.heap.setIfInBounds (u4.heap.size + 1) (rec .ready none) } : World) = w5 at s5
      have e5 : w4.putObj (u4.heap.size + 1) (rec .ready none) = w5 := hw5
      show Inv Q (seen ++ [id]) (w4.putObj _ _) ∧ ∀ g, Q g → (w4.putObj _ _).heap[g]? = w1.heap[g]?
      rw [e5]
      have k15 : Keep (fun g => S' g ∨ g = u4.heap.size + 1) w1 w5 :=
        (((s2.keep.mono fun g _ e => .inr e).trans (Keep.drew _ hd) fun _ _ h => h).trans k4 fun g _ e => .inl e).trans s5.keep fun g _ e => .inr e
      have hins : insC L[seen.length] (L.take seen.length) = L.take (seen ++ [id]).length := by
        have := insC_split L[seen.length] (L.take seen.length) [] hltid (fun c hc => by cases hc)
        rw [List.append_nil] at this
        rw [this, List.length_append, List.length_singleton, List.take_add_one, hxi]; rfl
      rw [hins] at hT4
      obtain ⟨nx4, hT4⟩ : ∃ n, DT w4 b' (L.take (seen ++ [id]).length) n (Ext S' w3 w4) := ⟨_, hT4⟩
      have hExt : ∀ g, Ext S' w3 w4 g → (Ext NoB u0 u1 g ∨ u6.heap.size ≤ g) ∧ ¬ Q g := fun g hg => by
        rcases hg with hg | hg
        · exact h5 g hg
        · exact ⟨.inr (by omega), fun hq => by have := (h3 g hq).2; omega⟩
      refine ⟨⟨s5.at_, h2.trans k15 fun g hg hx => ?_, fun g hg => ⟨(h3 g hg).1, by have := (h3 g hg).2; have := k15.size; omega⟩, Ext S' w3 w4, nx4, ?_, hExt⟩, fun g hg => k15.block g (h3 g hg).2 fun hx => ?_⟩
      · rcases hx with hx | hx
        · rcases (h5 g hx).1 with hc | hc
          · exact .inl hc
          · omega
        · exact .inr hx
      · obtain ⟨bm2, bi2, sl2, SI2, hp2⟩ := hT4
        refine ⟨bm2, bi2, sl2, SI2, hp2.keep s5.keep fun g hg e => ?_⟩
        have e : g = u4.heap.size + 1 := e
        rcases hg with hg | hg
        · exact hrec g hg e
        · omega
      · rcases hx with hx | hx
        · exact (h5 g hx).2 hg
        · have := (h3 g hg).1; omega
  refine (c_All1 hS h6 cap6 hy).mono ?_
  rintro _ w3 ⟨rfl, ⟨h1, h2, _, S', nx', ⟨bm', bi', sl', SI', hp⟩, h5⟩ | hF⟩
  · refine ⟨⟨_, rfl⟩, .inl ⟨.ready, by decide, h1, put_step h1 fun w4 s4 => ?_⟩⟩
    have hrec : ∀ g, S' g → g ≠ u4.heap.size + 1 ∧ g ≠ u4.heap.size ∧ g ≠ u1.heap.size ∧ g ≠ w.heap.size ∧ w.heap.size < g ∧ ¬ S g := fun g hg => by
      have hls : S g → g < w.heap.size := h.lt g
      rcases (h5 g hg).1 with hc | hc
      · have := hCl g hc
        exact ⟨by omega, by omega, by omega, by omega, by omega, fun hs => by have := hls hs; omega⟩
      · exact ⟨by omega, by omega, by omega, by omega, by omega, fun hs => by have := hls hs; omega⟩
    have k64 : Keep Y u6 w4 := h2.trans s4.keep fun g _ e => .inr e
    have box4 := k64.at_ box6 (nY _ (by omega) (fun _ => .inl rfl) (by omega))
    have new4 := k64.at_ new6 (nY _ (by omega) (fun _ => .inr (Nat.le_refl _)) (by omega))
    have ht4 : DP w4 b bm bi sl L nx S SI := h6.keep k64 fun g hg => by have := h.lt g hg; exact nY _ (by omega) (fun _ => by omega) (by omega)
    have hp4 := hp.keep s4.keep fun g hg e => (hrec g hg).1 e
    rw [List.length_map, List.take_length] at hp4
    refine ⟨_, cell_at0 new4 rfl, _, cell_at0 box4 rfl, _, ht4.c2, fun w5 hd => ?_⟩
    have hp5 := hp4.drew hd
    have eadr : ((⟨b', 0, none⟩ : Addr).add 2).add 0 = (⟨b', 0, none⟩ : Addr).add 2 := by simp [add_mk]
    show (∃ old, w5.cell? (((⟨b', 0, none⟩ : Addr).add 2).add 0) = some old) ∧ _
    rw [eadr]
    refine store_step hp5.at_ (by simp) fun w6 s6 => ?_
    have hp6 := hp5.setNext s6 h.wf
    have hb2 := hrec b' hp5.own.1
    have new6' := s6.keep.at_ (hd.at_ new4) (show ¬ u1.heap.size = b' by omega)
    have def6' := s6.keep.at_ (hd.at_ (k64.at_ def6 (nY _ (by omega) (fun _ => .inr (by omega)) (by omega)))) (show ¬ u4.heap.size = b' by omega)
    refine ⟨_, cell_at0 new6' rfl, def6', put_step def6' fun w7 s7 => ⟨b', rfl, ?_, by omega, ?_⟩⟩
    · refine ((((k06.trans k64 fun g hg e => ?_).trans (Keep.drew _ hd) fun _ _ h => h).trans s6.keep fun g hg e => ?_).trans s7.keep fun g hg e => ?_)
      · rcases e with e | e
        · have := hCl g e; omega
        · omega
      · have : g = b' := e; omega
      · have : g = u4.heap.size := e; omega
    · have hp7 := hp6.keep s7.keep fun g hg e => (hrec g hg).2.1 e
      have : DT w7 b' L nx S' := ⟨_, _, _, _, hp7⟩
      refine this.mono (fun g hg => .inr ⟨by have := (hrec g hg).2.2.2.2.1; omega, hp7.lt g hg⟩) fun g hg => ?_
      rcases hg with hg | hg
      · exact hg.elim
      · exact hg.2
  · exact hF.elim
end

end Go.Proofs.YtgepmlgkeljelaaGreat.Vc
