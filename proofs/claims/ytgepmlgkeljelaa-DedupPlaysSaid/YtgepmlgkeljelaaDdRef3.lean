/- The document's table (revertref16): Add, Load, Hold, Release, Skip, Copy. -/
import Derived.Test.YtgepmlgkeljelaaDdRef2
namespace Go.Proofs.Ytgepmlgkeljelaa.Vc
open Go Go.Proofs

/-- The table behind a call: chunks L, next id nx. -/
def RPost (w : World) (b : Nat) (S : Nat → Prop) (L : List Chk) (nx : Int) (w' : World) : Prop := Keep S w w' ∧ ∃ a' c', RT w' b a' c' L nx (Ext S w w')

section
variable {w : World} {b c : Nat} {a : Option Addr} {L : List Chk} {nx : Int} {S : Nat → Prop}

theorem RT.ext {w' : World} (h : RT w' b a c L nx S) : RT w' b a c L nx (Ext S w w') :=
  ⟨h.at_, h.row, ⟨.inl h.own.1, fun g hg => .inl (h.own.2 g hg)⟩, fun g hg => hg.elim (h.lt g) (·.2)⟩
theorem RPost.same {w' : World} (h : RT w b a c L nx S) (hk : Keep NoB w w') : RPost w b S L nx w' :=
  ⟨hk.mono fun _ _ h => h.elim, a, c, (h.keep hk fun _ _ h => h).ext⟩
theorem Ext.of_new {w0 : World} (hk : w.heap.size ≤ w0.heap.size) {u : World} {g : Nat} (h : Ext S w0 u g) : Ext S w u g := h.imp id fun h => ⟨by omega, h.2⟩
theorem RT.mono {S' : Nat → Prop} (h : RT w b a c L nx S) (hs : ∀ g, S g → S' g) (hl : ∀ g, S' g → g < w.heap.size) : RT w b a c L nx S' := ⟨h.at_, h.row, ⟨hs _ h.own.1, fun g hg => hs g (h.own.2 g hg)⟩, hl⟩
theorem RPost.from {w0 w' : World} (hk : Keep NoB w w0) (h : RPost w0 b S L nx w') (hS : ∀ g, S g → g < w.heap.size) : RPost w b S L nx w' := by
  obtain ⟨h1, a', c', h2⟩ := h
  refine ⟨(hk.mono fun _ _ h => h.elim).trans h1 fun _ _ h => h, a', c', h2.mono (fun g hg => Ext.of_new hk.size hg) fun g hg => ?_⟩
  rcases hg with hg | hg
  · have := hS g hg; have := hk.size; have := h1.size; omega
  · exact hg.2

def addR (L : List Chk) (nx : Int) (d : ByteArray) (blk : Int) : (Int × Int) × (List Chk × Int) :=
  if (d.size : Int) < 1 then ((0, 4), (L, nx)) else if (d.size : Int) > 64 then ((0, 4), (L, nx))
  else if findI L d ≥ 0 then ((0, 6), (L, nx)) else if nx = 4294967295 then ((0, 12), (L, nx))
  else ((nx, 0), (insC ⟨nx, d, blk, 1⟩ L, nx + 1))

theorem ref_Add (h : RT w b a c L nx S) (d : ByteArray) (blk : Int) (hlen : L.length ≤ 1000) (hnx : 0 ≤ nx ∧ nx ≤ 4294967295) :
    Calls P F.«revertref16_Table_Add» ⟨[.pointer (some ⟨b, 0, none⟩), .string d, .int .i64 blk]⟩ w fun e w' => e = .returned (.tuple ⟨[.int .u32 (addR L nx d blk).1.1, .int .i64 (addR L nx d blk).1.2]⟩) ∧
      RPost w b S (addR L nx d blk).2.1 (addR L nx d blk).2.2 w' := by
  have hsame : RPost w b S L nx w := RPost.same h (Keep.refl _ _)
  refine ok_revertref16_Table_Add ?_
  unfold V_revertref16_Table_Add
  refine bcase_mk (fun h1 => ?_) (fun h1 => bcase_mk (fun h2 => ?_) (fun h2 => ?_))
  · have h1 := of_decide_eq_true h1
    simp only [addR, if_pos h1]; exact ⟨by first | exact rfl | exact trivial, hsame⟩
  · have h1 := of_decide_eq_false h1
    have h2 := of_decide_eq_true h2
    simp only [addR, if_neg h1, if_pos h2]; exact ⟨by first | exact rfl | exact trivial, hsame⟩
  · have h1 := of_decide_eq_false h1
    have h2 := of_decide_eq_false h2
    refine (ref_Find h d).mono ?_
    rintro _ _ ⟨rfl, rfl⟩
    refine ⟨_, rfl, bcase_mk (fun h3 => ?_) (fun h3 => ⟨_, h.next, bcase_mk (fun h4 => ?_) (fun h4 => ⟨_, h.next, ?_⟩)⟩)⟩
    · have h3 := of_decide_eq_true h3
      simp only [addR, if_neg h1, if_neg h2, if_pos h3]; exact ⟨by first | exact rfl | exact trivial, hsame⟩
    · have h3 := of_decide_eq_false h3
      have h4 : nx = 4294967295 := by simpa using h4
      simp only [addR, if_neg h1, if_neg h2, if_neg h3, if_pos h4]; exact ⟨by first | exact rfl | exact trivial, hsame⟩
    · have h3 := of_decide_eq_false h3
      have h4 : ¬ nx = 4294967295 := by simpa using h4
      refine (ref_put h ⟨nx, d, blk, 1⟩ hlen ⟨hnx.1, by show nx < _; omega⟩).mono ?_
      rintro _ w' ⟨rfl, hk, a', c', h'⟩
      refine ⟨rfl, ?_⟩
      simp only [addR, if_neg h1, if_neg h2, if_neg h3, if_neg h4]
      exact ⟨by first | exact rfl | exact trivial, hk, a', c', by simpa using h'⟩

def loadR (L : List Chk) (nx : Int) (x : Chk) : Int × (List Chk × Int) :=
  if x.id = 0 then (2, (L, nx)) else if x.id = 4294967295 then (2, (L, nx))
  else if (x.data.size : Int) < 1 then (4, (L, nx)) else if (x.data.size : Int) > 64 then (4, (L, nx))
  else if x.refs < 1 then (4, (L, nx)) else if x.refs > 65535 then (4, (L, nx))
  else if atI L x.id ≥ 0 then (6, (L, nx)) else if findI L x.data ≥ 0 then (6, (L, nx))
  else (0, (insC x L, if x.id ≥ nx then x.id + 1 else nx))

theorem ref_Load (h : RT w b a c L nx S) (x : Chk) (hlen : L.length ≤ 1000) (hid : 0 ≤ x.id ∧ x.id ≤ 4294967295) :
    Calls P F.«revertref16_Table_Load» ⟨[.pointer (some ⟨b, 0, none⟩), .agg ⟨encC x⟩]⟩ w fun e w' => e = .returned (.int .i64 (loadR L nx x).1) ∧ RPost w b S (loadR L nx x).2.1 (loadR L nx x).2.2 w' := by
  refine ok_revertref16_Table_Load ?_
  unfold V_revertref16_Table_Load
  refine alloc_step fun u hu => ?_
  have hsame : RPost w b S L nx u := RPost.same h hu.keep
  have hb := hu.at_
  have hR : RT u b a c L nx S := h.keep hu.keep fun _ _ h => h
  refine ⟨_, cell_at hb rfl, bcase_mk (fun h1 => ?_) (fun h1 => ⟨_, cell_at hb rfl, bcase_mk (fun h2 => ?_) (fun h2 => ⟨_, cell_at hb rfl, bcase_mk (fun h3 => ?_) (fun h3 => ⟨_, cell_at hb rfl, bcase_mk (fun h4 => ?_) (fun h4 => ⟨_, cell_at hb rfl, bcase_mk (fun h5 => ?_) (fun h5 => ⟨_, cell_at hb rfl, bcase_mk (fun h6 => ?_) (fun h6 => ?_)⟩)⟩)⟩)⟩)⟩)⟩
  · have h1 : x.id = 0 := by simpa using h1
    simp only [loadR, if_pos h1]; exact ⟨by first | exact rfl | exact trivial, hsame⟩
  · have h1 : ¬ x.id = 0 := by simpa using h1
    have h2 : x.id = 4294967295 := by simpa using h2
    simp only [loadR, if_neg h1, if_pos h2]; exact ⟨by first | exact rfl | exact trivial, hsame⟩
  all_goals (have h1 : ¬ x.id = 0 := by simpa using h1); (have h2 : ¬ x.id = 4294967295 := by simpa using h2)
  · have h3 := of_decide_eq_true h3
    simp only [loadR, if_neg h1, if_neg h2, if_pos h3]; exact ⟨by first | exact rfl | exact trivial, hsame⟩
  · have h3 := of_decide_eq_false h3
    have h4 := of_decide_eq_true h4
    simp only [loadR, if_neg h1, if_neg h2, if_neg h3, if_pos h4]; exact ⟨by first | exact rfl | exact trivial, hsame⟩
  · have h3 := of_decide_eq_false h3
    have h4 := of_decide_eq_false h4
    have h5 := of_decide_eq_true h5
    simp only [loadR, if_neg h1, if_neg h2, if_neg h3, if_neg h4, if_pos h5]; exact ⟨by first | exact rfl | exact trivial, hsame⟩
  · have h3 := of_decide_eq_false h3
    have h4 := of_decide_eq_false h4
    have h5 := of_decide_eq_false h5
    have h6 := of_decide_eq_true h6
    simp only [loadR, if_neg h1, if_neg h2, if_neg h3, if_neg h4, if_neg h5, if_pos h6]; exact ⟨by first | exact rfl | exact trivial, hsame⟩
  · have h3 := of_decide_eq_false h3
    have h4 := of_decide_eq_false h4
    have h5 := of_decide_eq_false h5
    have h6 := of_decide_eq_false h6
    refine ⟨_, cell_at hb rfl, (ref_At hR x.id).mono ?_⟩
    rintro _ _ ⟨rfl, rfl⟩
    refine ⟨_, rfl, bcase_mk (fun h7 => ?_) (fun h7 => ⟨_, cell_at hb rfl, (ref_Find hR x.data).mono ?_⟩)⟩
    · have h7 := of_decide_eq_true h7
      simp only [loadR, if_neg h1, if_neg h2, if_neg h3, if_neg h4, if_neg h5, if_neg h6, if_pos h7]; exact ⟨by first | exact rfl | exact trivial, hsame⟩
    · have h7 := of_decide_eq_false h7
      rintro _ _ ⟨rfl, rfl⟩
      refine ⟨_, rfl, bcase_mk (fun h8 => ?_) (fun h8 => ⟨_, _, _, _, ⟨cell_at hb rfl, cell_at hb rfl, cell_at hb rfl, cell_at hb rfl, trivial⟩, (ref_put hR x hlen ⟨hid.1, by have := hid.2; omega⟩).mono ?_⟩)⟩
      · have h8 := of_decide_eq_true h8
        simp only [loadR, if_neg h1, if_neg h2, if_neg h3, if_neg h4, if_neg h5, if_neg h6, if_neg h7, if_pos h8]; exact ⟨by first | exact rfl | exact trivial, hsame⟩
      · have h8 := of_decide_eq_false h8
        rintro _ w' ⟨rfl, h'⟩
        refine ⟨rfl, ?_⟩
        simp only [loadR, if_neg h1, if_neg h2, if_neg h3, if_neg h4, if_neg h5, if_neg h6, if_neg h7, if_neg h8]
        exact ⟨by first | exact rfl | exact trivial, RPost.from hu.keep h' h.lt⟩

/-- A chunk with another count. -/
def Chk.with (x : Chk) (n : Int) : Chk := { x with refs := n }

theorem flat_set : ∀ (L : List Chk) (i : Nat) (x : Chk) (n : Int), L[i]? = some x → (L.flatMap encC).set (i * 4 + 3) (.int .i64 n) = (L.set i (x.with n)).flatMap encC
  | [], _, _, _, h => by cases h
  | d :: L, 0, x, n, h => by cases h; simp [encC, Chk.with]
  | d :: L, i + 1, x, n, h => by
    rw [List.flatMap_cons, List.set_append_right _ _ (by simp [encC]; omega), List.set_cons_succ, List.flatMap_cons]
    rw [show (i + 1) * 4 + 3 - (encC d).length = i * 4 + 3 by simp [encC]; omega, flat_set L i x n (by simpa using h)]

/-- A store of a chunk's count. -/
theorem RT.setRefs {u : World} {g : Nat} (h : RT w b (some ⟨g, 0, none⟩) c L nx S) {i : Nat} {x : Chk} (hi : L[i]? = some x) {n : Int} (hu : ∀ cur, w.heap[g]? = some (.cells cur T.«revertref16_Chunk») → Set1 w g (.cells (cur.setIfInBounds (i * 4 + 3) (.int .i64 n)) T.«revertref16_Chunk») u) :
    RT u b (some ⟨g, 0, none⟩) c (L.set i (x.with n)) nx S ∧ Keep S w u := by
  rcases h.row.cases' with ⟨h1, _⟩ | ⟨g', cur, h1, h2, h3, h4, h5, h6⟩
  · cases h1
  · cases h1
    have hu := hu cur h2
    have hl : (L.set i (x.with n)).length = L.length := List.length_set
    have hne : g ≠ b := fun e => h.ne (e ▸ Blk.mk _ _)
    have hlt : i < L.length := (List.getElem?_eq_some_iff.1 hi).1
    refine ⟨⟨?_, ?_, h.own, fun k hk => by rw [hu.size]; exact h.lt k hk⟩, hu.keep.mono fun k _ hk => by rw [show k = g from hk]; exact h.own.2 g (Blk.mk _ _)⟩
    · rw [hl]; exact hu.keep.at_ h.at_ (by show ¬ b = g; exact fun e => hne e.symm)
    · rw [hl, ← flat_set L i x n hi, ← h6]
      have hset : (cur.toList.take (L.length * 4)).set (i * 4 + 3) (.int .i64 n) = (cur.setIfInBounds (i * 4 + 3) (.int .i64 n)).toList.take (L.length * 4) := by
        rw [Array.toList_setIfInBounds, List.take_set]
      rw [hset]
      exact Sl.mk' hu.at_ h3 h4 (by simpa using h5)

theorem store_count {g i : Nat} {n : Int} {K : World → Prop} (h : RT w b (some ⟨g, 0, none⟩) c L nx S) {x : Chk} (hi : L[i]? = some x)
    (hk : ∀ u, RT u b (some ⟨g, 0, none⟩) c (L.set i (x.with n)) nx S → Keep S w u → K u) :
    (∃ old, w.cell? ((((⟨g, 0, none⟩ : Addr).add (i * 4)).add 3).add 0) = some old) ∧ w.frozen? ((((⟨g, 0, none⟩ : Addr).add (i * 4)).add 3).add 0) = false ∧ letW (w.setCell ((((⟨g, 0, none⟩ : Addr).add (i * 4)).add 3).add 0) (.int .i64 n)) K := by
  rcases h.row.cases' with ⟨h1, _⟩ | ⟨g', cur, h1, h2, h3, h4, h5, h6⟩
  · cases h1
  · cases h1
    have hlt : i < L.length := (List.getElem?_eq_some_iff.1 hi).1
    have e : (((⟨g, 0, none⟩ : Addr).add (i * 4)).add 3).add 0 = (⟨g, 0, none⟩ : Addr).add (i * 4 + 3) := by
      simp [add_mk]
    rw [e]
    refine store_step h2 (by rw [h5]; omega) fun u hu => ?_
    rw [Nat.zero_add] at hu
    obtain ⟨r1, r2⟩ := h.setRefs (u := u) hi (n := n) (fun cur' hc => by rw [h2] at hc; cases hc; exact hu)
    exact hk u r1 r2

theorem atI_none (L : List Chk) (id : Int) (h : atI L id < 0) : L.findIdx? (fun c => c.id == id) = none := by
  unfold atI at h
  split at h
  · omega
  · assumption
theorem atI_some {L : List Chk} {id : Int} (h : ¬ atI L id < 0) : ∃ (i : Nat) (x : Chk), atI L id = i ∧ L[i]? = some x ∧ x.id = id := by
  unfold atI at h ⊢
  split at h
  · rename_i i hi
    obtain ⟨h1, h2, _⟩ := List.findIdx?_eq_some_iff_getElem.1 hi
    exact ⟨i, L[i], rfl, List.getElem?_eq_getElem h1, by simpa using h2⟩
  · omega
theorem findI_some {L : List Chk} {d : ByteArray} (h : ¬ findI L d < 0) : ∃ (i : Nat) (x : Chk), findI L d = i ∧ L[i]? = some x ∧ (x.data.toList == d.toList) = true := by
  unfold findI at h ⊢
  split at h
  · rename_i i hi
    obtain ⟨h1, h2, _⟩ := List.findIdx?_eq_some_iff_getElem.1 hi
    exact ⟨i, L[i], rfl, List.getElem?_eq_getElem h1, by simpa using h2⟩
  · omega

def holdR (L : List Chk) (id : Int) : Int × List Chk :=
  if atI L id < 0 then (5, L) else
  match L[(atI L id).toNat]? with
  | none => (5, L)
  | some x => if x.refs ≥ 65535 then (12, L) else (0, L.set (atI L id).toNat (x.with (x.refs + 1)))

theorem ref_Hold (h : RT w b a c L nx S) (id : Int) (hr : ∀ x ∈ L, 1 ≤ x.refs ∧ x.refs ≤ 65535) : Calls P F.«revertref16_Table_Hold» ⟨[.pointer (some ⟨b, 0, none⟩), .int .u32 id]⟩ w fun e w' => e = .returned (.int .i64 (holdR L id).1) ∧ RPost w b S (holdR L id).2 nx w' := by
  refine ok_revertref16_Table_Hold ((ref_At h id).mono ?_)
  rintro _ _ ⟨rfl, rfl⟩
  have hsame : RPost w b S L nx w := RPost.same h (Keep.refl _ _)
  refine ⟨_, rfl, bcase_mk (fun h1 => ?_) (fun h1 => ?_)⟩
  · have h1 := of_decide_eq_true h1
    simp only [holdR, if_pos h1]; exact ⟨by first | exact rfl | exact trivial, hsame⟩
  · have h1 := of_decide_eq_false h1
    obtain ⟨i, x, hi, hx, hid⟩ := atI_some h1
    have hlt : i < L.length := (List.getElem?_eq_some_iff.1 hx).1
    obtain ⟨g, rfl, hc⟩ := h.cell hx
    have hrx := hr x (List.mem_of_getElem? hx)
    rw [hi]
    refine ⟨_, _, _, h.slice, ⟨by omega, by omega⟩, _, hc 3 _ rfl, bcase_mk (fun h2 => ?_) (fun h2 => ⟨_, _, _, h.slice, ⟨by omega, by omega⟩, _, hc 3 _ rfl, ⟨by omega, by omega⟩, store_count (i := i) h hx fun u hu hk => ?_⟩)⟩
    · have h2 := of_decide_eq_true h2
      simp only [holdR, if_neg h1, hi, Int.toNat_natCast, hx, if_pos h2]; exact ⟨by first | exact rfl | exact trivial, hsame⟩
    · have h2 := of_decide_eq_false h2
      rw [wrap64 (by omega) (by omega)] at hu
      simp only [holdR, if_neg h1, hi, Int.toNat_natCast, hx, if_neg h2]
      exact ⟨by first | exact rfl | exact trivial, hk, _, _, hu.ext⟩

def releaseR (L : List Chk) (id : Int) : (Bool × Int) × List Chk :=
  if atI L id < 0 then ((false, 5), L) else
  match L[(atI L id).toNat]? with
  | none => ((false, 5), L)
  | some x => if x.refs - 1 > 0 then ((false, 0), L.set (atI L id).toNat (x.with (x.refs - 1))) else ((true, 0), L.eraseIdx (atI L id).toNat)

theorem ref_Release (h : RT w b a c L nx S) (id : Int) (hlen : L.length ≤ 1000) (hr : ∀ x ∈ L, 1 ≤ x.refs ∧ x.refs ≤ 65535) : Calls P F.«revertref16_Table_Release» ⟨[.pointer (some ⟨b, 0, none⟩), .int .u32 id]⟩ w fun e w' =>
    e = .returned (.tuple ⟨[.bool (releaseR L id).1.1, .int .i64 (releaseR L id).1.2]⟩) ∧ RPost w b S (releaseR L id).2 nx w' := by
  refine ok_revertref16_Table_Release ((ref_At h id).mono ?_)
  rintro _ _ ⟨rfl, rfl⟩
  have hsame : RPost w b S L nx w := RPost.same h (Keep.refl _ _)
  refine ⟨_, rfl, bcase_mk (fun h1 => ?_) (fun h1 => ?_)⟩
  · have h1 := of_decide_eq_true h1
    simp only [releaseR, if_pos h1]; exact ⟨by first | exact rfl | exact trivial, hsame⟩
  · have h1 := of_decide_eq_false h1
    obtain ⟨i, x, hi, hx, hid⟩ := atI_some h1
    have hlt : i < L.length := (List.getElem?_eq_some_iff.1 hx).1
    obtain ⟨g, rfl, hc⟩ := h.cell hx
    have hrx := hr x (List.mem_of_getElem? hx)
    rw [hi]
    refine ⟨_, _, _, h.slice, ⟨by omega, by omega⟩, _, hc 3 _ rfl, ⟨by omega, by omega⟩, store_count (i := i) h hx fun u hu hk => ?_⟩
    rw [wrap64 (by omega) (by omega)] at hu
    have hx' : (L.set i (x.with (x.refs - 1)))[i]? = some (x.with (x.refs - 1)) := by simp [hlt]
    have hl' : (L.set i (x.with (x.refs - 1))).length = L.length := List.length_set
    obtain ⟨g', hg', hc'⟩ := hu.cell hx'
    cases hg'
    have hsl := hu.slice
    rw [hl'] at hsl
    refine ⟨_, _, _, hsl, ⟨by omega, by omega⟩, _, hc' 3 _ rfl, bcase_mk (fun h2 => ?_) (fun h2 => ?_)⟩
    · have h2 : x.refs - 1 > 0 := of_decide_eq_true h2
      simp only [releaseR, if_neg h1, hi, Int.toNat_natCast, hx, if_pos h2]
      exact ⟨by first | exact rfl | exact trivial, hk, _, _, hu.ext⟩
    · have h2 : ¬ x.refs - 1 > 0 := of_decide_eq_false h2
      have hcc := hu.row.le
      rw [hl'] at hcc
      obtain ⟨a2, c2, w2, r2, s2, k2, b2⟩ := append_own (ty := T.«l_revertref16_Chunk») chunkOk (Sl.nil u T.«revertref16_Chunk» 4) (hu.row.src (lo := 0) (hi := i) (Nat.zero_le _) (by omega)) (fun v hv => encC_one _ v (by simpa using List.mem_of_mem_take hv)) (by omega)
      simp only [Nat.zero_mul, List.drop_zero, Nat.sub_zero, flat_take, List.nil_append, Nat.zero_add] at r2 s2
      have k2' : Keep NoB u w2 := k2.mono fun g _ hg => absurd hg Blk.none
      have h2R := hu.keep k2' fun _ _ h => h
      have hsl2 := h2R.slice
      rw [hl'] at hsl2
      have hb2 : ∀ g, Blk a2 g → u.heap.size ≤ g := fun g hg => (b2 g hg).resolve_left Blk.none
      obtain ⟨a3, c3, w3, r3, s3, k3, b3⟩ := append_own (ty := T.«l_revertref16_Chunk») chunkOk s2 (h2R.row.src (lo := i + 1) (hi := L.length) (by omega) (by omega)) (fun v hv => encC_one _ v (List.mem_of_mem_drop (List.mem_of_mem_take hv))) (by omega)
      have hxs : ((L.set i (x.with (x.refs - 1))).take i).flatMap encC ++ (((L.set i (x.with (x.refs - 1))).flatMap encC).drop ((i + 1) * 4)).take ((L.length - (i + 1)) * 4) = (L.eraseIdx i).flatMap encC := by
        rw [flat_drop, List.take_of_length_le (l := ((L.set i (x.with (x.refs - 1))).drop (i + 1)).flatMap encC) (by rw [encC_length, List.length_drop, hl']; exact Nat.le_refl _), ← List.flatMap_append, List.eraseIdx_eq_take_drop_succ]
        simp only [List.take_set, List.drop_set]
        rw [List.set_eq_of_length_le (by rw [List.length_take]; omega), if_pos (by omega)]
      have hn : i + (L.length - (i + 1)) = (L.eraseIdx i).length := by rw [List.length_eraseIdx, if_pos hlt]; omega
      rw [hxs, hn] at s3
      rw [hn] at r3
      have hb3 : ∀ g, Blk a3 g → u.heap.size ≤ g := fun g hg => by rcases b3 g hg with h | h; exact hb2 g h; have := k2.size; omega
      have k3' : Keep NoB u w3 := k2'.trans k3 fun g hg hb => by have := hb2 g hb; omega
      have h3R := hu.keep k3' fun _ _ h => h
      have e1 : IntKind.wrap .i64 ((i : Int) + 1) = ((i + 1 : Nat) : Int) := by rw [wrap64 (by omega) (by omega)]; omega
      rw [e1]
      refine ⟨_, _, _, hsl, ⟨by omega, by omega, by omega, by omega⟩, _, _, _, _, r2, _, _, _, hsl2, ⟨by omega, by omega, by omega, by omega⟩, _, _, _, _, r3, store_step (i := 0) h3R.at_ (by simp) fun w4 hu4 => ?_⟩
      simp only [releaseR, if_neg h1, hi, Int.toNat_natCast, hx, if_neg h2]
      have hsz : w.heap.size ≤ u.heap.size := hk.size
      have hbS : S b := h.own.1
      refine ⟨by first | exact rfl | exact trivial, (hk.trans k3' fun _ _ h => h.elim).trans hu4.keep fun g _ hg => by rw [show g = b from hg]; exact hbS, _, _, RT.store hu4 rfl s3 (fun hb => by have := hb3 _ hb; have := hu.lt b hbS; omega) (.inl hbS) (fun g hg => .inr ⟨by have := hb3 g hg; omega, by rw [hu4.size]; exact s3.lt hg⟩) fun g hg => ?_⟩
      rcases hg with hg | hg
      · have := hu.lt g hg; have := k3'.size; omega
      · rw [← hu4.size]; exact hg.2

theorem ref_Skip (h : RT w b a c L nx S) (n : Int) : Calls P F.«revertref16_Table_Skip» ⟨[.pointer (some ⟨b, 0, none⟩), .int .u32 n]⟩ w fun e w' => e = .returned (.tuple ⟨[]⟩) ∧ RPost w b S L (if n > nx then n else nx) w' := by
  refine ok_revertref16_Table_Skip ⟨_, h.next, bcase_mk (fun h1 => store_step (i := 0) h.at_ (by simp [add_mk]) fun u hu => ?_) (fun h1 => ?_)⟩
  · have h1 : n > nx := of_decide_eq_true h1
    rw [if_pos h1]
    exact ⟨rfl, hu.keep.mono fun g _ hg => by rw [show g = b from hg]; exact h.own.1, _, _, RT.ext (RT.store hu rfl h.row h.ne h.own.1 h.own.2 h.lt)⟩
  · have h1 : ¬ n > nx := of_decide_eq_false h1
    rw [if_neg h1]
    exact ⟨rfl, RPost.same h (Keep.refl _ _)⟩

theorem ref_Copy (h : RT w b a c L nx S) (hlen : L.length ≤ 1000) : Calls P F.«revertref16_Table_Copy» ⟨[.pointer (some ⟨b, 0, none⟩)]⟩ w fun e w' => e = .returned (.pointer (some ⟨w.heap.size, 0, none⟩)) ∧ Keep NoB w w' ∧ ∃ a' c', RT w' w.heap.size a' c' L nx (Ext NoB w w') := by
  refine ok_revertref16_Table_Copy ⟨_, h.next, ?_⟩
  refine alloc_step fun u hu => ⟨_, _, _, cell_at hu.at_ rfl, ?_⟩
  have h1 := h.keep hu.keep fun _ _ h => h
  refine ⟨_, _, _, h1.slice, fun w2 hd => ?_⟩
  have h2 := h1.drew hd
  obtain ⟨a3, c3, w3, r3, s3, k3, b3⟩ := append_own (ty := T.«l_revertref16_Chunk») chunkOk (Sl.nil w2 T.«revertref16_Chunk» 4) h2.row.srcAll (encC_one L) (by omega)
  simp only [List.nil_append, Nat.zero_add] at r3 s3
  have e3 : w3.heap[w.heap.size]? = _ := k3.at_ (hd.at_ hu.at_) Blk.none
  have hb3 : ∀ g, Blk a3 g → w.heap.size < g := fun g hg => by have := (b3 g hg).resolve_left Blk.none; rw [hd.size, hu.size] at this; omega
  have z3 := k3.size
  rw [hd.size, hu.size] at z3
  refine ⟨_, _, _, _, r3, ?_⟩
  have st := store_step (w := w3) (b := w.heap.size) (o := 0) (i := 0) (v := .slice a3 L.length c3) (K := fun u0_1 => (Ending.returned (.pointer (some ⟨w.heap.size, 0, none⟩)) : Ending) = .returned (.pointer (some ⟨w.heap.size, 0, none⟩)) ∧ Keep NoB w u0_1 ∧ ∃ a' c', RT u0_1 w.heap.size a' c' L nx (Ext NoB w u0_1)) e3 (by simp) fun w4 hu4 => by
    refine ⟨rfl, ((hu.keep.trans (Keep.drew NoB hd) fun _ _ h => h).andThen k3 fun g hg => absurd hg Blk.none).trans hu4.keep fun g hg e => by have : g = w.heap.size := e; omega, _, _, RT.store hu4 rfl s3 (fun hb => by have := hb3 _ hb; omega) (.inr ⟨Nat.le_refl _, by rw [hu4.size]; omega⟩) (fun g hg => .inr ⟨by have := hb3 g hg; omega, by rw [hu4.size]; exact s3.lt hg⟩) fun g hg => ?_⟩
    rcases hg with hg | hg
    · exact hg.elim
    · rw [← hu4.size]; exact hg.2
  exact st
end

end Go.Proofs.Ytgepmlgkeljelaa.Vc
