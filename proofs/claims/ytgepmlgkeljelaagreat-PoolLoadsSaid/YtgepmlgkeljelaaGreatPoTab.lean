/- The chunks' table (package dedup), as a part of memory. -/
import Derived.Test.YtgepmlgkeljelaaGreatVcN
import Derived.Test.YtgepmlgkeljelaaGreatDdCopy
import Derived.Test.YtgepmlgkeljelaaGreatDdSorts
namespace Go.Proofs.YtgepmlgkeljelaaGreat.Vc
open Go Go.Proofs

/-- The table at b: chunks L, next id nx. -/
def Ded (b : Nat) (L : List Chk) (nx : Int) : Asrt where
  on w S := DT w b L nx S
  loc h he hz := by
    obtain ⟨bm, bi, sl, SI, h⟩ := h
    exact ⟨bm, bi, sl, SI, h.same he hz⟩
  lt h hg := by
    obtain ⟨_, _, _, _, h⟩ := h
    exact h.lt _ hg

theorem DPost.own {w w' : World} {b : Nat} {S : Foot} {L : List Chk} {nx : Int} (h : DPost w b S L nx w') : Own w S [Ded b L nx] w' :=
  Own.mk1 (A := Ded b L nx) h.1 h.2 fun _ hg => hg.imp id (·.1)

section
variable {w : World} {S : Foot} {b : Nat} {L : List Chk} {nx : Int}

theorem Ded.wf (h : (Ded b L nx).on w S) : WF L nx ∧ L.length ≤ 1000 := by
  obtain ⟨_, _, _, _, h⟩ := h; exact ⟨h.wf, h.len⟩
/-- The table's first cell: its map. -/
theorem Ded.c0 (h : (Ded b L nx).on w S) : ∃ bm, w.cell? ((⟨b, 0, none⟩ : Addr).add 0) = some (.map (some bm)) := by
  obtain ⟨bm, _, _, _, h⟩ := h; exact ⟨bm, h.c0⟩

theorem t_New (w : World) : Calls P F.«dedup_New» ⟨[]⟩ w fun e w' => ∃ b, e = .returned (.pointer (some ⟨b, 0, none⟩)) ∧ Own w NoB [Ded b [] 1] w' := by
  refine (c_New w).mono ?_
  rintro _ w1 ⟨b, rfl, k, _, h⟩
  exact ⟨b, rfl, Own.mk1 (A := Ded b [] 1) k h fun _ hg => hg.imp id (·.1)⟩
theorem t_Add (h : (Ded b L nx).on w S) (d : ByteArray) (blk : Int) (hs : d.size ≤ 4294967296) (hlen : L.length < 1000) :
    Calls P F.«dedup_Table_Add» ⟨[.pointer (some ⟨b, 0, none⟩), .string d, .int .i64 blk]⟩ w fun e w' => e = .returned (.tuple ⟨[.int .u32 (addR L nx d blk).1.1, .int .i64 (addR L nx d blk).1.2]⟩) ∧ Own w S [Ded b (addR L nx d blk).2.1 (addR L nx d blk).2.2] w' := by
  obtain ⟨_, _, _, _, h⟩ := h
  exact (c_Add h d blk hs hlen).mono fun e w' h => ⟨h.1, h.2.own⟩
theorem t_Load (h : (Ded b L nx).on w S) (x : Chk) (hs : x.data.size ≤ 4294967296) (hid : 0 ≤ x.id ∧ x.id ≤ 4294967295) (hlen : L.length < 1000) :
    Calls P F.«dedup_Table_Load» ⟨[.pointer (some ⟨b, 0, none⟩), .int .u32 x.id, .string x.data, .int .i64 x.block, .int .i64 x.refs]⟩ w fun e w' => e = .returned (.int .i64 (loadR L nx x).1) ∧ Own w S [Ded b (loadR L nx x).2.1 (loadR L nx x).2.2] w' := by
  obtain ⟨_, _, _, _, h⟩ := h
  exact (c_Load h x hs hid hlen).mono fun e w' h => ⟨h.1, h.2.own⟩
theorem t_Hold (h : (Ded b L nx).on w S) (id : Int) : Calls P F.«dedup_Table_Hold» ⟨[.pointer (some ⟨b, 0, none⟩), .int .u32 id]⟩ w fun e w' => e = .returned (.int .i64 (holdR L id).1) ∧ Own w S [Ded b (holdR L id).2 nx] w' := by
  obtain ⟨_, _, _, _, h⟩ := h
  exact (c_Hold h id).mono fun e w' h => ⟨h.1, h.2.own⟩
theorem t_Release (h : (Ded b L nx).on w S) (id : Int) : Calls P F.«dedup_Table_Release» ⟨[.pointer (some ⟨b, 0, none⟩), .int .u32 id]⟩ w fun e w' => e = .returned (.tuple ⟨[.bool (releaseR L id).1.1, .int .i64 (releaseR L id).1.2]⟩) ∧ Own w S [Ded b (releaseR L id).2 nx] w' := by
  obtain ⟨_, _, _, _, h⟩ := h
  exact (c_Release h id).mono fun e w' h => ⟨h.1, h.2.own⟩
theorem t_Skip (h : (Ded b L nx).on w S) (n : Int) (hn : 0 ≤ n ∧ n ≤ 4294967295) : Calls P F.«dedup_Table_Skip» ⟨[.pointer (some ⟨b, 0, none⟩), .int .u32 n]⟩ w fun e w' => e = .returned (.tuple ⟨[]⟩) ∧ Own w S [Ded b L (if n > nx then n else nx)] w' := by
  obtain ⟨_, _, _, _, h⟩ := h
  exact (c_Skip h n hn).mono fun e w' h => ⟨h.1, h.2.own⟩
theorem t_Next (h : (Ded b L nx).on w S) : Calls P F.«dedup_Table_Next» ⟨[.pointer (some ⟨b, 0, none⟩)]⟩ w fun e w' => e = .returned (.int .u32 nx) ∧ w = w' := by
  obtain ⟨_, _, _, _, h⟩ := h
  exact c_Next h
theorem t_Get (h : (Ded b L nx).on w S) (id : Int) : Calls P F.«dedup_Table_Get» ⟨[.pointer (some ⟨b, 0, none⟩), .int .u32 id]⟩ w fun e w' =>
    e = .returned (.tuple ⟨[.string (oData (getC L id)), .int .i64 (oBlock (getC L id)), .int .i64 (oRefs (getC L id)), .bool (getC L id).isSome]⟩) ∧ Keep NoB w w' := by
  obtain ⟨_, _, _, _, h⟩ := h
  exact c_Get h id
theorem t_Find (h : (Ded b L nx).on w S) (d : ByteArray) (hs : d.size ≤ 4294967296) : Calls P F.«dedup_Table_Find» ⟨[.pointer (some ⟨b, 0, none⟩), .string d]⟩ w fun e w' =>
    e = .returned (.tuple ⟨[.int .u32 (oId (getD L d)), .bool (getD L d).isSome]⟩) ∧ Keep NoB w w' := by
  obtain ⟨_, _, _, _, h⟩ := h
  exact c_Find h d hs
theorem t_Copy (h : (Ded b L nx).on w S) (hlen : L.length < 1000) : Calls P F.«dedup_Table_Copy» ⟨[.pointer (some ⟨b, 0, none⟩)]⟩ w fun e w' => ∃ b', e = .returned (.pointer (some ⟨b', 0, none⟩)) ∧ Own w NoB [Ded b' L nx] w' := by
  obtain ⟨_, _, _, _, h⟩ := h
  refine (c_Copy sortOk h hlen).mono ?_
  rintro _ w1 ⟨b', rfl, k, _, h'⟩
  exact ⟨b', rfl, Own.mk1 (A := Ded b' L nx) k h' fun _ hg => hg.imp id (·.1)⟩
theorem t_All (w : World) (t : Option Addr) : Calls P F.«dedup_Table_All» ⟨[.pointer t]⟩ w fun e w' => e = .returned (.func (.func F.«dedup_Table_All_1») ⟨[]⟩ ⟨[.pointer (some ⟨w.heap.size, 0, none⟩)]⟩) ∧ Own w NoB [At w.heap.size (.cells ⟨[.pointer t]⟩ T.«p_dedup_Table»)] w' := by
  refine (c_All w t).mono ?_
  rintro _ w1 ⟨rfl, n⟩
  exact ⟨rfl, Own.new n⟩

/-- THE ITERATOR OF A TABLE's IDS: 'I i': what the loop's body holds behind i rounds; it may hold the table. -/
theorem t_All1 {y : Value} {cb : Nat} {I : Nat → Asrt} {Stop : Asrt} (h : (I 0).on w S) {St : Foot} (ht : (Ded b L nx).on w St) (hcb : w.heap[cb]? = some (.cells ⟨[.pointer (some ⟨b, 0, none⟩)]⟩ T.«p_dedup_Table»))
    (hy : ∀ (i : Nat) (c : Chk), L[i]? = some c → ∀ (u : World) (Q : Foot), (I i).on u Q → Keep S w u → (∀ g, Q g → S g ∨ w.heap.size ≤ g) → callV P Bd y [.int .u32 c.id] u fun e u' => (e = .returned (.bool true) ∧ Own u Q [I (i + 1)] u') ∨ (e = .returned (.bool false) ∧ Own u Q [Stop] u')) :
    Calls P F.«dedup_Table_All_1» ⟨[y, .pointer (some ⟨cb, 0, none⟩)]⟩ w fun e w' => e = .returned (.tuple ⟨[]⟩) ∧ (Own w S [I L.length] w' ∨ Own w S [Stop] w') := by
  obtain ⟨bm, bi, sl, SI, hd⟩ := ht
  have hwf := hd.wf
  let Inv : (Nat → Prop) → List Int → World → Prop := fun Q seen u => ∃ R, (I seen.length).on u R ∧ (∀ g, R g → (S g ∨ w.heap.size ≤ g) ∧ ¬ Q g) ∧ Keep S w u ∧ ∀ g, Q g → w.heap.size ≤ g ∧ g < u.heap.size
  have hlt : ∀ g, S g → g < w.heap.size := fun g hg => (I 0).lt h hg
  have hY : Yields y w S (fun seen id => ∃ rest, seen ++ id :: rest = L.map (·.id)) Inv (fun u => Own w S [Stop] u) := by
    refine ⟨fun Q u hk hQ => ⟨S, (I 0).loc h (fun g hg => hk.block g (hlt g hg) fun h => h) hk.size, fun g hg => ⟨.inl hg, fun hq => by have := hlt g hg; have := (hQ g hq).1; omega⟩, hk.mono fun _ _ h => h.elim, hQ⟩, ?_, fun Q seen u ⟨_, _, _, h, _⟩ => h, fun Q seen u ⟨R, h1, h2, h3, h4⟩ => ⟨R, h1, fun g hg => ⟨(h2 g hg).1, fun h => h⟩, h3, fun _ h => h.elim⟩, ?_⟩
    · rintro Q seen u u' ⟨R, h1, h2, h3, h4⟩ hk
      exact ⟨R, (I _).loc h1 (fun g hg => hk.block g ((I _).lt h1 hg) (h2 g hg).2) hk.size, h2, h3.trans hk fun g hg hq => by have := (h4 g hq).1; omega, fun g hg => ⟨(h4 g hg).1, by have := (h4 g hg).2; have := hk.size; omega⟩⟩
    · rintro Q seen id u ⟨R, h1, h2, h3, h4⟩ ⟨rest, hr⟩
      have hl : seen.length < L.length := by have := congrArg List.length hr; simp at this; omega
      have hx : L[seen.length]? = some L[seen.length] := List.getElem?_eq_getElem hl
      have hid : L[seen.length].id = id := by
        have : (L.map (·.id))[seen.length]? = some id := by rw [← hr]; simp
        simpa [hx] using this
      have hkeep : ∀ (l : List Asrt) u', Own u R l u' → Own w S l u' := fun l u' ⟨⟨R', hR', hb'⟩, k'⟩ =>
        ⟨⟨R', hR', fun g hg => (hb' g hg).elim (fun h => (h2 g h).1) fun h => .inr (by have := h3.size; omega)⟩, h3.trans k' fun g hg hx => (h2 g hx).1.resolve_right (by omega)⟩
      refine callV.mono (by rw [← hid]; exact hy seen.length _ hx u R h1 h3 fun g hg => (h2 g hg).1) ?_
      rintro e u' (⟨rfl, ho⟩ | ⟨rfl, ho⟩)
      · refine ⟨true, rfl, fun _ => ?_, fun h => (by cases h)⟩
        have hw := hkeep _ _ ho
        obtain ⟨⟨R', ⟨R1, R2, ha, hb, _, hs⟩, hbd⟩, k'⟩ := ho
        refine ⟨⟨R1, by rw [List.length_append]; exact ha, fun g hg => ⟨?_, fun hq => ?_⟩, hw.keep, fun g hg => ⟨(h4 g hg).1, by have := (h4 g hg).2; have := k'.size; omega⟩⟩, fun g hg => k'.block g (h4 g hg).2 fun hx => (h2 g hx).2 hg⟩
        · rcases hbd g ((hs g).2 (.inl hg)) with h | h
          · exact (h2 g h).1
          · exact .inr (by have := h3.size; omega)
        · rcases hbd g ((hs g).2 (.inl hg)) with h | h
          · exact (h2 g h).2 hq
          · have := (h4 g hq).2; omega
      · exact ⟨false, rfl, fun h => (by cases h), fun _ => hkeep _ _ ho⟩
  refine (c_All1 sortOk hd hcb hY).mono ?_
  rintro _ w' ⟨rfl, ⟨R, h1, h2, h3, _⟩ | hs⟩
  · refine ⟨rfl, .inl (Own.mk1 h3 (by rw [List.length_map] at h1; exact h1) fun g hg => (h2 g hg).1)⟩
  · exact ⟨rfl, .inr hs⟩
end

end Go.Proofs.YtgepmlgkeljelaaGreat.Vc
