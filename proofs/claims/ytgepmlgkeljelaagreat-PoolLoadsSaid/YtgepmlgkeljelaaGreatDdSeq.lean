/- Iterators: maps.Keys of the table's map, slices.Collect over it. -/
import Derived.Test.YtgepmlgkeljelaaGreatDdOps
import Derived.Test.YtgepmlgkeljelaaGreatVcN
namespace Go.Proofs.YtgepmlgkeljelaaGreat.Vc
open Go Go.Proofs

/-- A function that is yielded to, from world W0 on: it writes blocks of Y, and what is new; Q is another's. -/
structure Yields (y : Value) (W0 : World) (Y : Nat → Prop) (ok : List Int → Int → Prop) (Inv : (Nat → Prop) → List Int → World → Prop) (Stop : World → Prop) : Prop where
  init : ∀ (Q : Nat → Prop) w, Keep NoB W0 w → (∀ g, Q g → W0.heap.size ≤ g ∧ g < w.heap.size) → Inv Q [] w
  stable : ∀ (Q : Nat → Prop) seen w w', Inv Q seen w → Keep Q w w' → Inv Q seen w'
  frame : ∀ (Q : Nat → Prop) seen w, Inv Q seen w → Keep Y W0 w
  less : ∀ (Q : Nat → Prop) seen w, Inv Q seen w → Inv NoB seen w
  step : ∀ (Q : Nat → Prop) seen id w, Inv Q seen w → ok seen id → callV P Bd y [.int .u32 id] w fun e w2 => ∃ b, e = .returned (.bool b) ∧ (b = true → Inv Q (seen ++ [id]) w2 ∧ ∀ g, Q g → w2.heap[g]? = w.heap[g]?) ∧ (b = false → Stop w2)

def intOf : Value → Int | .int _ n => n | _ => 0

section
variable {W0 : World} {kb bm : Nat} {es : List MapEntry} {clk : Nat} {L : List Chk} {y : Value} {Y : Nat → Prop} {Inv : (Nat → Prop) → List Int → World → Prop} {Stop : World → Prop}

theorem c_Keys1 (hy : Yields y W0 Y (fun seen id => id ∈ L.map (·.id) ∧ seen.length < L.length) Inv Stop) (hkb : W0.heap[kb]? = some (.cells ⟨[.map (some bm)]⟩ T.«m_u32_dedup_chunk»)) (hbm : W0.heap[bm]? = some (.map ⟨es⟩ clk)) (he : Ents es clk L) (hY : ¬ Y bm) :
    Calls P F.«maps_Keys_map_uint32_dedup_chunk_uint32_dedup_chunk_1» ⟨[y, .pointer (some ⟨kb, 0, none⟩)]⟩ W0 fun e w' => e = .returned (.tuple ⟨[]⟩) ∧ ((∃ l, l.Perm (L.map (·.id)) ∧ Inv NoB l w') ∨ Stop w') := by
  refine ok_maps_Keys_map_uint32_dedup_chunk_uint32_dedup_chunk_1 ⟨_, cell_at0 hkb rfl, some ⟨W0.heap.size, 0, none⟩, _, run_range_map W0 _ _ _ bm ⟨es⟩ clk mapOk hbm, ?_⟩
  have n0 := New.mk' W0 (.mapIter (some bm) clk #[] clk)
  generalize W0.alloc (.mapIter (some bm) clk #[] clk) = w0 at n0
  generalize hr : W0.heap.size = r at n0
  have hbl := lt_of_at hbm
  refine ⟨fun _ w => ∃ picked rest : List MapEntry, es.Perm (picked ++ rest) ∧ Inv (fun g => g = r) (picked.map fun e => intOf e.key) w ∧ w.heap[r]? = some (.mapIter (some bm) clk (picked.map (·.born)).toArray clk),
    fun _ w => es.length - (w.iterSeen r).size, ⟨[], es, List.Perm.refl _, hy.init _ _ n0.keep (fun g hg => by subst hg; subst hr; exact ⟨Nat.le_refl _, by rw [n0.size]; omega⟩), by subst hr; exact n0.at_⟩, ?_⟩
  rintro _ w ⟨picked, rest, hp, hi, hw⟩
  have hfr := hy.frame _ _ _ hi
  have hm : w.heap[bm]? = some (.map ⟨es⟩ clk) := hfr.at_ hbm hY
  have hnd : ((picked ++ rest).map (·.born)).Nodup := (hp.map _).nodup_iff.1 he.born.1
  have hseen : w.iterSeen r = (picked.map (·.born)).toArray := by unfold World.iterSeen; rw [hw]
  rcases run_next_at (P := P) w T.«tup_» r bm clk clk _ ⟨es⟩ clk hw hm (by simpa using he.born.2) (Nat.le_refl _) with ⟨h0, hrun⟩ | ⟨e, hel, w1, hw1, hrun⟩
  · refine ⟨_, _, hrun, rfl, .inl ⟨_, ?_, hy.less _ _ _ hi⟩⟩
    have hrest : rest = [] := by
      cases rest with
      | nil => rfl
      | cons x xs =>
        exfalso
        have hx : x ∈ leftOf ⟨es⟩ (picked.map (·.born)).toArray := by
          unfold leftOf
          refine Array.mem_filter.2 ⟨by simpa using hp.mem_iff.2 (by simp), ?_⟩
          rw [List.map_append, List.nodup_append] at hnd
          simp only [List.contains_toArray, Bool.not_eq_true', List.contains_eq_mem, decide_eq_false_iff_not]
          intro hc
          exact hnd.2.2 x.born hc x.born (by simp) rfl
        have := Array.size_pos_of_mem hx
        omega
    subst hrest
    rw [List.append_nil] at hp
    have := (hp.symm.map kvE).trans he.perm
    have := this.map fun p => intOf p.1
    rw [List.map_map, List.map_map] at this
    exact this
  · have hes : e ∈ es ∧ e.born ∉ picked.map (·.born) := by
      have := hel
      unfold leftOf at this
      have := Array.mem_filter.1 (Array.mem_toList_iff.1 this)
      simp only [List.contains_toArray, Bool.not_eq_true', List.contains_eq_mem, decide_eq_false_iff_not] at this
      exact ⟨by simpa using this.1, this.2⟩
    have her : e ∈ rest := by
      rcases List.mem_append.1 (hp.mem_iff.1 hes.1) with h | h
      · exact absurd (List.mem_map.2 ⟨e, h, rfl⟩) hes.2
      · exact h
    obtain ⟨r1, r2, rfl⟩ := List.append_of_mem her
    have hp' : es.Perm ((picked ++ [e]) ++ (r1 ++ r2)) := by
      refine hp.trans ?_
      rw [List.append_assoc]
      refine List.Perm.append_left _ ?_
      exact List.perm_middle
    obtain ⟨c, hc, hkey, hval⟩ := he.mem hes.1
    have hd1 : Drew w w1 := by rcases hw1 with rfl | rfl; exact Drew.refl _; exact ⟨1, rfl⟩
    have s1 : Set1 w1 r (.mapIter (some bm) clk ((picked.map (·.born)).toArray.push e.born) clk) (ChangeMaps.setBlock w1 r (.mapIter (some bm) clk ((picked.map (·.born)).toArray.push e.born) clk)) := Set1.mk' (hd1.at_ hw)
    generalize ChangeMaps.setBlock w1 r (.mapIter (some bm) clk ((picked.map (·.born)).toArray.push e.born) clk) = w2 at hrun s1
    have k2 : Keep (fun g => g = r) w w2 := (Keep.drew _ hd1).trans s1.keep fun _ _ h => h
    have i2 := hy.stable _ _ _ _ hi k2
    have m2 := (hy.frame _ _ _ i2).at_ hbm hY
    refine ⟨_, _, hrun, _, _, run_entry_at (P := P) w2 r bm clk _ ⟨es⟩ clk e s1.at_ m2 (by simpa using hes.1) he.born.1, ?_⟩
    show callV P Bd y [e.key] w2 _
    rw [hkey]
    have hlen := hp.length_eq
    have hsz := he.size
    simp only [List.length_append, List.length_cons] at hlen
    refine callV.mono (hy.step _ _ c.id w2 i2 ⟨List.mem_map.2 ⟨c, hc, rfl⟩, by simp; omega⟩) ?_
    rintro _ w3 ⟨b, rfl, ht, hf⟩
    refine ⟨_, rfl, bcase_mk (fun hb => ⟨rfl, .inr (hf (by simpa using hb))⟩) (fun hb => ?_)⟩
    obtain ⟨i3, q3⟩ := ht (by simpa using hb)
    have hw3 : w3.heap[r]? = some (.mapIter (some bm) clk ((picked ++ [e]).map (·.born)).toArray clk) := by rw [q3 r rfl, s1.at_]; simp
    have hseen3 : w3.iterSeen r = ((picked ++ [e]).map (·.born)).toArray := by unfold World.iterSeen; rw [hw3]
    refine ⟨⟨picked ++ [e], r1 ++ r2, hp', ?_, hw3⟩, ?_⟩
    · rw [List.map_append]
      have : [e].map (fun e => intOf e.key) = [c.id] := by simp [hkey, intOf]
      rw [this]; exact i3
    · show es.length - (w3.iterSeen r).size < es.length - (w.iterSeen r).size
      rw [hseen, hseen3]; simp; omega
end

/-- What a call of slices.Collect(maps.Keys(m)) finds. -/
structure KeysAt (w : World) (kb bm : Nat) (es : List MapEntry) (clk : Nat) (L : List Chk) : Prop where
  box : w.heap[kb]? = some (.cells ⟨[.map (some bm)]⟩ T.«m_u32_dedup_chunk»)
  map : w.heap[bm]? = some (.map ⟨es⟩ clk)
  ents : Ents es clk L
  len : L.length ≤ 1000

section
variable {w : World} {kb bm : Nat} {es : List MapEntry} {clk : Nat} {L : List Chk}

theorem c_AppendSeq (h : KeysAt w kb bm es clk L) : Calls P F.«slices_AppendSeq_sl_uint32_uint32» ⟨[.slice none 0 0, .func (.func F.«maps_Keys_map_uint32_dedup_chunk_uint32_dedup_chunk_1») ⟨[]⟩ ⟨[.pointer (some ⟨kb, 0, none⟩)]⟩]⟩ w fun e w' =>
    ∃ a' c' l, e = .returned (.slice a' l.length c') ∧ l.Perm (L.map (·.id)) ∧ U32 w' a' c' l ∧ Keep NoB w w' ∧ ∀ g, Blk a' g → w.heap.size ≤ g := by
  refine ok_slices_AppendSeq_sl_uint32_uint32 ?_
  unfold V_slices_AppendSeq_sl_uint32_uint32
  refine alloc_step fun u0 hu0 => ?_
  show bW true _
  intro y rec rounds
  have n1 := New.mk' u0 (.deferred (some []))
  generalize u0.alloc (.deferred (some [])) = u1 at n1
  have n2 := New.mk' u1 (rec .ready none)
  generalize u1.alloc (rec .ready none) = u2 at n2
  have z0 := hu0.size
  have z1 := n1.size
  have z2 := n2.size
  have k02 : Keep NoB w u2 := (hu0.keep.trans n1.keep fun _ _ h => h).trans n2.keep fun _ _ h => h
  have box2 : u2.heap[w.heap.size]? = _ := n2.keep.at_ (n1.keep.at_ hu0.at_ (fun h => h)) (fun h => h)
  have def2 : u2.heap[u0.heap.size]? = _ := n2.keep.at_ n1.at_ (fun h => h)
  have rec2 : u2.heap[u0.heap.size + 1]? = some (rec .ready none) := by rw [← z1]; exact n2.at_
  -- what the loop's body owns
  let Inv : (Nat → Prop) → List Int → World → Prop := fun Q seen w' =>
    ∃ a c, w'.heap[w.heap.size]? = some (.cells ⟨[.slice a seen.length c]⟩ T.«l_u32») ∧ U32 w' a c seen ∧ w'.heap[u0.heap.size]? = some (.deferred (some [])) ∧ w'.heap[u0.heap.size + 1]? = some (rec .ready none) ∧
      (∀ g, Blk a g → u2.heap.size ≤ g ∧ ¬ Q g) ∧ Keep (fun g => g = w.heap.size ∨ g = u0.heap.size + 1) u2 w' ∧ ∀ g, Q g → u2.heap.size ≤ g ∧ g < w'.heap.size
  have hy : Yields y u2 (fun g => g = w.heap.size ∨ g = u0.heap.size + 1) (fun seen id => id ∈ L.map (·.id) ∧ seen.length < L.length) Inv (fun _ => False) := by
    refine ⟨fun Q w' hk hQ => ⟨none, 0, hk.at_ box2 (fun h => h), Sl.nil _ _ _, hk.at_ def2 (fun h => h), hk.at_ rec2 (fun h => h), fun g hg => absurd hg Blk.none, hk.mono fun _ _ h => h.elim, hQ⟩, ?_, fun Q seen w' ⟨a, c, _, _, _, _, _, h, _⟩ => h, ?_, ?_⟩
    · rintro Q seen w1 w2 ⟨a, c, h1, h2, h3, h4, h5, h6, h7⟩ hk
      have nq : ∀ g, g < u2.heap.size → ¬ Q g := fun g hg hq => by have := (h7 g hq).1; omega
      exact ⟨a, c, hk.at_ h1 (nq _ (by omega)), Sl.keep h2 hk fun g hg => (h5 g hg).2, hk.at_ h3 (nq _ (by omega)), hk.at_ h4 (nq _ (by omega)), h5, h6.trans hk fun g hg hq => absurd hq (nq g hg), fun g hg => ⟨(h7 g hg).1, by have := (h7 g hg).2; have := hk.size; omega⟩⟩
    · rintro Q seen w1 ⟨a, c, h1, h2, h3, h4, h5, h6, h7⟩
      exact ⟨a, c, h1, h2, h3, h4, fun g hg => ⟨(h5 g hg).1, fun h => h⟩, h6, fun g hg => hg.elim⟩
    · rintro Q seen id w1 ⟨a, c, h1, h2, h3, h4, h5, h6, h7⟩ ⟨_, hok⟩
      have hL := h.len
      refine rounds _ id w1 h4 ⟨h4, put_step h4 fun w2 s2 => ?_⟩
      have hne : ¬ w.heap.size = u0.heap.size + 1 := by omega
      have box3 := s2.keep.at_ h1 hne
      have row3 : U32 w2 a c seen := Sl.keep h2 s2.keep fun g hg e => by have := (h5 g hg).1; have : g = u0.heap.size + 1 := e; omega
      obtain ⟨w3, r3, n3⟩ := buildSlice_one (P := P) (w := w2) u32Ok (encU id) rfl (by decide)
      have row4 : U32 w3 a c seen := Sl.keep row3 n3.keep fun _ _ h => h
      have x3 : Src w3 1 (some ⟨w2.heap.size, 0, none⟩) 1 1 ([id].map encU) := ⟨rfl, .inr ⟨_, rfl, fun j u hj => cell_at n3.at_ (show (encU id).cells[0 + j]? = some u by rw [Nat.zero_add]; simpa [Value.cells] using hj)⟩⟩
      obtain ⟨a5, c5, w5, r5, s5, k5, b5⟩ := append_own (ty := T.«l_u32») u32Ok row4 x3 (encU_one [id]) (by omega)
      have hl : seen.length + 1 = (seen ++ [id]).length := by simp
      rw [hl] at r5 s5
      rw [← List.map_append] at s5
      have z3 : w2.heap.size = w1.heap.size := s2.size
      have hsz1 := h6.size
      have z4 := n3.size
      have hb5 : ∀ g, Blk a5 g → u2.heap.size ≤ g ∧ ¬ Q g := fun g hg => by
        rcases b5 g hg with hb | hb
        · exact h5 g hb
        · exact ⟨by omega, fun hq => by have := (h7 g hq).2; omega⟩
      have hnb : ∀ g, g < u2.heap.size → ¬ Blk a g := fun g hg hb => by have := (h5 g hb).1; omega
      have box5 := k5.at_ (n3.keep.at_ box3 (fun h => h)) (hnb _ (by omega))
      have def5 := k5.at_ (n3.keep.at_ (s2.keep.at_ h3 (show ¬ u0.heap.size = u0.heap.size + 1 by omega)) (fun h => h)) (hnb _ (by omega))
      have rec5 := k5.at_ (n3.keep.at_ s2.at_ (fun h => h)) (hnb _ (by omega))
      refine ⟨_, _, _, cell_at0 box3 rfl, _, _, _, _, r3, _, _, _, _, r5, store_step box5 (by simp) fun w6 s6 => ⟨s6.keep.at_ rec5 (show ¬ u0.heap.size + 1 = w.heap.size by omega), true, rfl, fun _ => ?_, fun h => by cases h⟩⟩
      have s7 := Set1.mk' (o := rec .ready none) (s6.keep.at_ rec5 (show ¬ u0.heap.size + 1 = w.heap.size by omega))
      generalize hw7 : ({ w6 with heap := w6.heap.setIfInBounds (u0.heap.size + 1) (rec .ready none) } : World) = w7 at s7
      show Inv Q (seen ++ [id]) (w6.putObj (u0.heap.size + 1) (rec .ready none)) ∧ ∀ g, Q g → (w6.putObj (u0.heap.size + 1) (rec .ready none)).heap[g]? = w1.heap[g]?
      have e7 : w6.putObj (u0.heap.size + 1) (rec .ready none) = w7 := hw7
      rw [e7]
      have k17 : Keep (fun g => g = w.heap.size ∨ g = u0.heap.size + 1 ∨ Blk a g) w1 w7 := by
        refine ((((s2.keep.mono fun g _ e => .inr (.inl e)).trans n3.keep fun _ _ h => h.elim).trans k5 fun g _ hg => .inr (.inr hg)).trans s6.keep fun g _ e => .inl e).trans s7.keep fun g _ e => .inr (.inl e)
      have nq : ∀ g, g < u2.heap.size → ¬ Q g := fun g hg hq => by have := (h7 g hq).1; omega
      refine ⟨⟨a5, c5, s7.keep.at_ s6.at_ hne, Sl.keep (Sl.keep s5 s6.keep fun g hg e => ?_) s7.keep fun g hg e => ?_, s7.keep.at_ (s6.keep.at_ def5 (show ¬ u0.heap.size = w.heap.size by omega)) (show ¬ u0.heap.size = u0.heap.size + 1 by omega), s7.at_, hb5, h6.trans k17 fun g hg hx => ?_, fun g hg => ⟨(h7 g hg).1, by have := (h7 g hg).2; have := k17.size; omega⟩⟩, fun g hg => k17.block g (h7 g hg).2 fun hx => ?_⟩
      · have := (hb5 g hg).1; have : g = w.heap.size := e; omega
      · have := (hb5 g hg).1; have : g = u0.heap.size + 1 := e; omega
      · rcases hx with hx | hx | hx
        · exact .inl hx
        · exact .inr hx
        · exact absurd hx (hnb g hg)
      · have hgq := (h7 g hg).1
        rcases hx with hx | hx | hx
        · omega
        · omega
        · exact (h5 g hx).2 hg
  have hkb : u2.heap[kb]? = _ := k02.at_ h.box (fun h => h)
  have hbm : u2.heap[bm]? = _ := k02.at_ h.map (fun h => h)
  have hbl := lt_of_at h.map
  refine (c_Keys1 hy hkb hbm h.ents (by rintro (e | e) <;> omega)).mono ?_
  rintro _ w3 ⟨rfl, ⟨l, hl, a, c, h1, h2, h3, h4, h5, h6, _⟩ | hF⟩
  · refine ⟨⟨_, rfl⟩, .inl ⟨.ready, by decide, h4, put_step h4 fun w4 s4 => ⟨_, _, _, cell_at0 (s4.keep.at_ h1 (show ¬ w.heap.size = u0.heap.size + 1 by omega)) rfl, ?_⟩⟩⟩
    have d4 := s4.keep.at_ h3 (show ¬ u0.heap.size = u0.heap.size + 1 by omega)
    refine ⟨d4, put_step d4 fun w5 s5 => ⟨a, c, l, rfl, hl, Sl.keep (Sl.keep h2 s4.keep fun g hg e => ?_) s5.keep fun g hg e => ?_, ?_, fun g hg => by have := (h5 g hg).1; omega⟩⟩
    · have := (h5 g hg).1; have : g = u0.heap.size + 1 := e; omega
    · have := (h5 g hg).1; have : g = u0.heap.size := e; omega
    · refine ((k02.trans h6 fun g hg e => ?_).trans s4.keep fun g hg e => ?_).trans s5.keep fun g hg e => ?_
      · rcases e with e | e <;> omega
      · have : g = u0.heap.size + 1 := e; omega
      · have : g = u0.heap.size := e; omega
  · exact hF.elim

theorem c_Collect (h : KeysAt w kb bm es clk L) : Calls P F.«slices_Collect_uint32» ⟨[.func (.func F.«maps_Keys_map_uint32_dedup_chunk_uint32_dedup_chunk_1») ⟨[]⟩ ⟨[.pointer (some ⟨kb, 0, none⟩)]⟩]⟩ w fun e w' =>
    ∃ a' c' l, e = .returned (.slice a' l.length c') ∧ l.Perm (L.map (·.id)) ∧ U32 w' a' c' l ∧ Keep NoB w w' ∧ ∀ g, Blk a' g → w.heap.size ≤ g := by
  refine ok_slices_Collect_uint32 ((c_AppendSeq h).mono ?_)
  rintro _ w1 ⟨a', c', l, rfl, h1⟩
  exact ⟨_, _, _, rfl, a', c', l, rfl, h1⟩
end

/-- slices.Sort at []uint32 does what it should: proved in a text of its own. -/
def SortOk : Prop := ∀ (w : World) (a : Option Addr) (c : Nat) (l : List Int), U32 w a c l → l.length ≤ 100000 → Calls P F.«slices_Sort_sl_uint32_uint32» ⟨[.slice a l.length c]⟩ w fun e w' =>
  e = .returned (.tuple ⟨[]⟩) ∧ ∃ l', l'.Perm l ∧ l'.Pairwise (· ≤ ·) ∧ U32 w' a c l' ∧ Keep (Blk a) w w'

end Go.Proofs.YtgepmlgkeljelaaGreat.Vc
