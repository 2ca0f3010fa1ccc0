/- Package hash: the index. -/
import Derived.Test.YtgepmlgkeljelaaGreatDdHash
namespace Go.Proofs.YtgepmlgkeljelaaGreat.Vc
open Go Go.Proofs

abbrev SlT := Nat → Option Addr × Nat
def hcells (sl : SlT) (ids : Nat → List Int) : List Value := .bool true :: (List.range 16).map fun k => .slice (sl k).1 (ids k).length (sl k).2
def updN {α : Type} (f : Nat → α) (k : Nat) (x : α) : Nat → α := fun j => if j = k then x else f j
theorem updN_same {α : Type} {f : Nat → α} {k : Nat} {x : α} : updN f k x k = x := by simp [updN]
theorem updN_other {α : Type} {f : Nat → α} {k j : Nat} {x : α} (h : j ≠ k) : updN f k x j = f j := by simp [updN, h]

theorem hcells_get {sl : SlT} {ids : Nat → List Int} {k : Nat} (hk : k < 16) : (⟨hcells sl ids⟩ : Array Value)[1 + k]? = some (.slice (sl k).1 (ids k).length (sl k).2) := by
  simp [hcells, Nat.add_comm 1 k, hk]
theorem hcells_size {sl : SlT} {ids : Nat → List Int} : (⟨hcells sl ids⟩ : Array Value).size = 17 := by simp [hcells]
theorem hcells_set {sl : SlT} {ids : Nat → List Int} {k : Nat} (a : Option Addr) (c : Nat) (l : List Int) : (⟨hcells sl ids⟩ : Array Value).setIfInBounds (1 + k) (.slice a l.length c) = ⟨hcells (updN sl k (a, c)) (updN ids k l)⟩ := by
  apply Array.toList_inj.1
  rw [Array.toList_setIfInBounds, Nat.add_comm 1 k]
  simp only [hcells, List.set_cons_succ]
  congr 1
  apply List.ext_getElem?
  intro j
  rw [List.getElem?_set]
  by_cases hj : j < 16
  · by_cases hkj : k = j
    · subst hkj
      simp [hj, updN]
    · have : j ≠ k := fun e => hkj e.symm
      simp [hkj, hj, updN, this]
  · have : ¬ k = j ∨ k = j := by omega
    by_cases hkj : k = j
    · subst hkj; simp [hj]
    · simp [hkj, hj]

/-- THE INDEX IN MEMORY: under each of 16 buckets a list of ids. -/
structure HI (w : World) (b : Nat) (sl : SlT) (ids : Nat → List Int) (S : Nat → Prop) : Prop where
  at_ : w.heap[b]? = some (.cells ⟨hcells sl ids⟩ T.«hash_Index»)
  row : ∀ k, k < 16 → U32 w (sl k).1 (sl k).2 (ids k)
  apart : ∀ j k, j < 16 → k < 16 → j ≠ k → ∀ g, Blk (sl j).1 g → ¬ Blk (sl k).1 g
  own : S b ∧ ∀ k, k < 16 → ∀ g, Blk (sl k).1 g → S g
  lt : ∀ b, S b → b < w.heap.size

namespace HI
variable {w u : World} {b : Nat} {sl : SlT} {ids : Nat → List Int} {S S' : Nat → Prop}
theorem ne (h : HI w b sl ids S) {k : Nat} (hk : k < 16) : ¬ Blk (sl k).1 b := fun hb => by
  obtain ⟨cur, hc⟩ := Sl.type (h.row k hk) hb
  rw [h.at_] at hc
  cases hc
theorem same (h : HI w b sl ids S) (hs : ∀ g, S g → u.heap[g]? = w.heap[g]?) (hsz : w.heap.size ≤ u.heap.size) : HI u b sl ids S :=
  ⟨(hs b h.own.1).trans h.at_, fun k hk => Sl.same (h.row k hk) fun g hg => hs g (h.own.2 k hk g hg), h.apart, h.own, fun g hg => Nat.lt_of_lt_of_le (h.lt g hg) hsz⟩
theorem keep (h : HI w b sl ids S) (hk : Keep S' w u) (hd : ∀ g, S g → ¬ S' g) : HI u b sl ids S :=
  h.same (fun g hg => hk.block g (h.lt g hg) (hd g hg)) hk.size
theorem drew (h : HI w b sl ids S) (hd : Drew w u) : HI u b sl ids S := h.keep (Keep.drew NoB hd) fun _ _ h => h
theorem cell (h : HI w b sl ids S) {k : Nat} (hk : k < 16) : w.cell? (((⟨b, 0, none⟩ : Addr).add 1).add ((((k : Nat) : Int)).toNat * 1)) = some (.slice (sl k).1 (ids k).length (sl k).2) := by
  have e : ((⟨b, 0, none⟩ : Addr).add 1).add ((((k : Nat) : Int)).toNat * 1) = (⟨b, 0, none⟩ : Addr).add (1 + k) := by simp [add_mk]
  rw [e]
  exact cell_at h.at_ (by rw [Nat.zero_add]; exact hcells_get hk)
theorem mono (h : HI w b sl ids S) (hs : ∀ g, S g → S' g) (hl : ∀ g, S' g → g < w.heap.size) : HI w b sl ids S' := ⟨h.at_, h.row, h.apart, ⟨hs _ h.own.1, fun k hk g hg => hs g (h.own.2 k hk g hg)⟩, hl⟩

/-- Behind a store into the index's own block. -/
theorem store {k c' : Nat} {a' : Option Addr} {l' : List Int} (h : HI w b sl ids S) (hk : k < 16) (hu : Set1 w b (.cells ((⟨hcells sl ids⟩ : Array Value).setIfInBounds (1 + k) (.slice a' l'.length c')) T.«hash_Index») u)
    (hr : U32 w a' c' l') (hap : ∀ j, j < 16 → j ≠ k → ∀ g, Blk (sl j).1 g → ¬ Blk a' g) (hS : ∀ g, Blk a' g → S' g) (hs : ∀ g, S g → S' g) (hl : ∀ g, S' g → g < w.heap.size) :
    HI u b (updN sl k (a', c')) (updN ids k l') S' := by
  rw [hcells_set] at hu
  have hne : ¬ Blk a' b := fun hb => by
    obtain ⟨cur, hc⟩ := Sl.type hr hb
    rw [h.at_] at hc
    cases hc
  refine ⟨hu.at_, fun j hj => ?_, fun i j hi hj hij g hg hg' => ?_, ⟨hs b h.own.1, fun j hj g hg => ?_⟩, fun g hg => by rw [hu.size]; exact hl g hg⟩
  · by_cases hjk : j = k
    · subst hjk
      rw [updN_same, updN_same]
      exact Sl.keep hr hu.keep fun g hg e => hne (e ▸ hg)
    · rw [updN_other hjk, updN_other hjk]
      exact Sl.keep (h.row j hj) hu.keep fun g hg e => h.ne hj (e ▸ hg)
  · by_cases hik : i = k
    · subst hik
      rw [updN_same] at hg
      rw [updN_other (fun e => hij e.symm)] at hg'
      exact hap j hj (fun e => hij e.symm) g hg' hg
    · rw [updN_other hik] at hg
      by_cases hjk : j = k
      · subst hjk
        rw [updN_same] at hg'
        exact hap i hi hik g hg hg'
      · rw [updN_other hjk] at hg'
        exact h.apart i j hi hj hij g hg hg'
  · by_cases hjk : j = k
    · subst hjk
      rw [updN_same] at hg
      exact hS g hg
    · rw [updN_other hjk] at hg
      exact hs g (h.own.2 j hj g hg)
end HI

section
variable {w : World} {b : Nat} {sl : SlT} {ids : Nat → List Int} {S : Nat → Prop}

theorem c_hashNew (w : World) : Calls P F.«hash_New» ⟨[]⟩ w fun e w' => e = .returned (.pointer (some ⟨w.heap.size, 0, none⟩)) ∧ Keep NoB w w' ∧ w'.heap.size = w.heap.size + 1 ∧ HI w' w.heap.size (fun _ => (none, 0)) (fun _ => []) (Ext NoB w w') := by
  refine ok_hash_New ?_
  unfold V_hash_New
  refine alloc_step fun u hu => ⟨rfl, hu.keep, hu.size, hu.at_, fun k _ => Sl.nil _ _ _, fun j k _ _ _ g hg => absurd hg Blk.none, ⟨.inr ⟨Nat.le_refl _, by rw [hu.size]; omega⟩, fun k _ g hg => absurd hg Blk.none⟩, fun g hg => ?_⟩
  rcases hg with hg | hg
  · exact hg.elim
  · exact hg.2

theorem c_hashIs (h : HI w b sl ids S) : Calls P F.«hash_Index_is» ⟨[.pointer (some ⟨b, 0, none⟩)]⟩ w fun e w' => e = .returned (.bool true) ∧ w = w' := by
  refine ok_hash_Index_is ?_
  unfold V_hash_Index_is
  exact bcase_mk (fun _ => ⟨true, cell_at h.at_ rfl, rfl, rfl⟩) (fun hb => by cases hb)

theorem c_hashFind (h : HI w b sl ids S) (s : ByteArray) (hs : s.size ≤ 4294967296) (hlen : ∀ k, k < 16 → (ids k).length ≤ 100000) :
    Calls P F.«hash_Index_Find» ⟨[.pointer (some ⟨b, 0, none⟩), .string s]⟩ w fun e w' => ∃ a' c', e = .returned (.slice a' (ids (bucketN s)).length c') ∧ U32 w' a' c' (ids (bucketN s)) ∧ Keep NoB w w' := by
  have hk := bucketN_lt s
  refine ok_hash_Index_Find ((c_hashIs h).mono ?_)
  rintro _ _ ⟨rfl, rfl⟩
  refine ⟨_, rfl, bcase_mk (fun hb => by cases hb) (fun _ => ⟨_, q_Bucket w s hs, ⟨by omega, by omega⟩, _, _, _, h.cell hk, fun w1 hd => ((c_Clone ((h.drew hd).row _ hk) (hlen _ hk))).mono ?_⟩)⟩
  rintro _ w2 ⟨a', c', rfl, h1, h2, h3⟩
  exact ⟨_, _, _, rfl, a', c', rfl, h1, (Keep.drew NoB hd).trans h2 fun _ _ h => h⟩

theorem c_hashAdd (h : HI w b sl ids S) (s : ByteArray) (id : Int) (hs : s.size ≤ 4294967296) (hlen : ∀ k, k < 16 → (ids k).length ≤ 100000) (hn : id ∉ ids (bucketN s)) :
    Calls P F.«hash_Index_Add» ⟨[.pointer (some ⟨b, 0, none⟩), .string s, .int .u32 id]⟩ w fun e w' => e = .returned (.int .i64 0) ∧ Keep S w w' ∧ ∃ sl', HI w' b sl' (updN ids (bucketN s) (ids (bucketN s) ++ [id])) (Ext S w w') := by
  have hk := bucketN_lt s
  have hll := hlen _ hk
  refine ok_hash_Index_Add ((c_hashIs h).mono ?_)
  rintro _ _ ⟨rfl, rfl⟩
  refine ⟨_, rfl, bcase_mk (fun hb => by cases hb) (fun _ w1 hd => (c_Bucket w1 s hs).mono ?_)⟩
  rintro _ _ ⟨rfl, rfl⟩
  have h1 := h.drew hd
  refine ⟨_, rfl, ⟨by omega, by omega⟩, _, _, _, h1.cell hk, (c_Contains (h1.row _ hk) id).mono ?_⟩
  rintro _ _ ⟨rfl, rfl⟩
  refine ⟨_, rfl, bcase_mk (fun hb => ?_) (fun _ => ⟨_, _, _, h1.cell hk, ?_⟩)⟩
  · have hb : idxI (ids (bucketN s)) id ≥ 0 := of_decide_eq_true hb
    obtain ⟨i, _, hi⟩ := idxI_some (l := ids (bucketN s)) (v := id) (by omega)
    exact absurd (List.mem_of_getElem? hi) hn
  · obtain ⟨w2, r2, n2⟩ := buildSlice_one (P := P) (w := w1) u32Ok (encU id) rfl (by decide)
    have h2 := h1.keep n2.keep fun _ _ h => h
    have x2 : Src w2 1 (some ⟨w1.heap.size, 0, none⟩) 1 1 ([id].map encU) := ⟨rfl, .inr ⟨_, rfl, fun j u hj => cell_at n2.at_ (show (encU id).cells[0 + j]? = some u by rw [Nat.zero_add]; simpa [Value.cells] using hj)⟩⟩
    obtain ⟨a3, c3, w3, r3, s3, k3, b3⟩ := append_own (ty := T.«l_u32») u32Ok (h2.row _ hk) x2 (encU_one [id]) (by omega)
    have hl : (ids (bucketN s)).length + 1 = (ids (bucketN s) ++ [id]).length := by simp
    rw [hl] at r3 s3
    rw [← List.map_append] at s3
    have hS3 : ∀ g, Blk a3 g → Ext S w w3 g := fun g hg => by
      rcases b3 g hg with hb | hb
      · exact .inl (h.own.2 _ hk g hb)
      · refine .inr ⟨?_, s3.lt hg⟩
        rw [n2.size, hd.size] at hb; omega
    have hk03 : Keep S w w3 := (((Keep.drew S hd).andThen n2.keep fun _ h => h.elim).trans k3 fun g _ hg => h.own.2 _ hk g hg)
    -- the index itself, and the other rows
    have hsep : ∀ g, S g → Blk (sl (bucketN s)).1 g ∨ w3.heap[g]? = w.heap[g]? := fun g hg => by
      by_cases hb : Blk (sl (bucketN s)).1 g
      · exact .inl hb
      · right
        rw [k3.block g (by have := h2.lt g hg; omega) hb, n2.keep.block g (h1.lt g hg) (fun h => h), hd.heap]
    have e3 : w3.heap[b]? = some (.cells ⟨hcells sl ids⟩ T.«hash_Index») := by
      rcases hsep b h.own.1 with hb | hb
      · exact absurd hb (h.ne hk)
      · exact hb.trans h.at_
    have eadr : (((⟨b, 0, none⟩ : Addr).add 1).add ((((bucketN s : Nat) : Int)).toNat * 1)).add 0 = (⟨b, 0, none⟩ : Addr).add (1 + bucketN s) := by simp [add_mk]
    refine ⟨_, _, _, _, r2, _, _, _, _, r3, ?_⟩
    rw [eadr]
    refine store_step e3 (by rw [hcells_size]; omega) fun w4 hu4 => ?_
    rw [Nat.zero_add] at hu4
    refine ⟨rfl, hk03.trans hu4.keep fun g _ hg => by rw [show g = b from hg]; exact h.own.1, updN sl (bucketN s) (a3, c3), ?_⟩
    -- the fifteen other rows
    have hkk : bucketN s < 16 := hk
    rw [hcells_set] at hu4
    have hne3 : ¬ Blk a3 b := fun hb => by
      obtain ⟨cur, hc⟩ := Sl.type s3 hb
      rw [e3] at hc
      cases hc
    have hap3 : ∀ j, j < 16 → j ≠ bucketN s → ∀ g, Blk (sl j).1 g → ¬ Blk a3 g := fun j hj hjk g hg hg3 => by
      rcases b3 g hg3 with hb | hb
      · exact h.apart j _ hj hk hjk g hg hb
      · have := h.lt g (h.own.2 j hj g hg); rw [n2.size, hd.size] at hb; omega
    refine ⟨hu4.at_, fun j hj => ?_, fun i j hi hj hij g hg hg' => ?_, ⟨.inl h.own.1, fun j hj g hg => ?_⟩, fun g hg => ?_⟩
    · by_cases hjk : j = bucketN s
      · subst hjk
        rw [updN_same, updN_same]
        exact Sl.keep s3 hu4.keep fun g hg e => hne3 (e ▸ hg)
      · rw [updN_other hjk, updN_other hjk]
        refine Sl.keep (Sl.same (h.row j hj) fun g hg => ?_) hu4.keep fun g hg e => h.ne hj (e ▸ hg)
        exact (hsep g (h.own.2 j hj g hg)).resolve_left (h.apart j _ hj hk hjk g hg)
    · by_cases hik : i = bucketN s
      · subst hik
        rw [updN_same] at hg
        rw [updN_other (fun e => hij e.symm)] at hg'
        exact hap3 j hj (fun e => hij e.symm) g hg' hg
      · rw [updN_other hik] at hg
        by_cases hjk : j = bucketN s
        · subst hjk
          rw [updN_same] at hg'
          exact hap3 i hi hik g hg hg'
        · rw [updN_other hjk] at hg'
          exact h.apart i j hi hj hij g hg hg'
    · by_cases hjk : j = bucketN s
      · subst hjk
        rw [updN_same] at hg
        have := hS3 g hg
        unfold Ext at this ⊢
        rw [hu4.size]
        exact this
      · rw [updN_other hjk] at hg
        exact .inl (h.own.2 j hj g hg)
    · rcases hg with hg | hg
      · rw [hu4.size]
        have := h.lt g hg; have := hk03.size; omega
      · exact hg.2

theorem c_hashDrop (h : HI w b sl ids S) (s : ByteArray) (id : Int) (hs : s.size ≤ 4294967296) (hlen : ∀ k, k < 16 → (ids k).length ≤ 100000) (hm : id ∈ ids (bucketN s)) :
    Calls P F.«hash_Index_Drop» ⟨[.pointer (some ⟨b, 0, none⟩), .string s, .int .u32 id]⟩ w fun e w' => e = .returned (.int .i64 0) ∧ Keep S w w' ∧ w'.heap.size = w.heap.size ∧ ∃ (sl' : SlT) (i : Nat), (ids (bucketN s))[i]? = some id ∧ HI w' b sl' (updN ids (bucketN s) ((ids (bucketN s)).eraseIdx i)) S := by
  have hk := bucketN_lt s
  refine ok_hash_Index_Drop ((c_hashIs h).mono ?_)
  rintro _ _ ⟨rfl, rfl⟩
  refine ⟨_, rfl, bcase_mk (fun hb => by cases hb) (fun _ w1 hd => (c_Bucket w1 s hs).mono ?_)⟩
  rintro _ _ ⟨rfl, rfl⟩
  have h1 := h.drew hd
  have hll := hlen _ hk
  refine ⟨_, rfl, ⟨by omega, by omega⟩, _, _, _, h1.cell hk, (c_Index (h1.row _ hk) id).mono ?_⟩
  rintro _ _ ⟨rfl, rfl⟩
  by_cases hneg : idxI (ids (bucketN s)) id < 0
  · exact absurd hm (idxI_neg hneg)
  obtain ⟨i, hi, hg⟩ := idxI_some hneg
  have hlt : i < (ids (bucketN s)).length := (List.getElem?_eq_some_iff.1 hg).1
  rw [hi]
  refine ⟨_, rfl, bcase_mk (fun hb => by have := of_decide_eq_true hb; omega) (fun _ => ⟨_, _, _, h1.cell hk, ?_⟩)⟩
  rw [wrap64 (n := (i : Int) + 1) (by omega) (by omega), show (i : Int) + 1 = ((i + 1 : Nat) : Int) by push_cast; rfl]
  refine (c_Delete (h1.row _ hk) hlt).mono ?_
  rintro _ w3 ⟨rfl, s3, k3, z3⟩
  have hsep : ∀ g, S g → Blk (sl (bucketN s)).1 g ∨ w3.heap[g]? = w1.heap[g]? := fun g hg => by
    by_cases hb : Blk (sl (bucketN s)).1 g
    · exact .inl hb
    · exact .inr (k3.block g (h1.lt g hg) hb)
  have h3 : ∀ j, j < 16 → j ≠ bucketN s → U32 w3 (sl j).1 (sl j).2 (ids j) := fun j hj hjk => Sl.same (h1.row j hj) fun g hg => (hsep g (h.own.2 j hj g hg)).resolve_left (h.apart j _ hj hk hjk g hg)
  have e3 : w3.heap[b]? = some (.cells ⟨hcells sl ids⟩ T.«hash_Index») := by
    rcases hsep b h.own.1 with hb | hb
    · exact absurd hb (h.ne hk)
    · exact hb.trans h1.at_
  have eadr : (((⟨b, 0, none⟩ : Addr).add 1).add ((((bucketN s : Nat) : Int)).toNat * 1)).add 0 = (⟨b, 0, none⟩ : Addr).add (1 + bucketN s) := by simp [add_mk]
  refine ⟨_, _, _, rfl, ?_⟩
  rw [eadr]
  refine store_step e3 (by rw [hcells_size]; omega) fun w4 hu4 => ?_
  rw [Nat.zero_add, hcells_set] at hu4
  refine ⟨rfl, ((Keep.drew S hd).trans k3 fun g _ hg => h.own.2 _ hk g hg).trans hu4.keep fun g _ hg => by rw [show g = b from hg]; exact h.own.1, by rw [hu4.size, z3, hd.size], updN sl (bucketN s) ((sl (bucketN s)).1, (sl (bucketN s)).2), i, hg, ?_⟩
  have hsl : ∀ j, (updN sl (bucketN s) ((sl (bucketN s)).1, (sl (bucketN s)).2)) j = sl j := fun j => by
    by_cases hj : j = bucketN s
    · subst hj; rw [updN_same]
    · rw [updN_other hj]
  refine ⟨hu4.at_, fun j hj => ?_, fun i j hi hj hij g hg hg' => ?_, ⟨h.own.1, fun j hj g hg => ?_⟩, fun g hg => ?_⟩
  · rw [hsl]
    by_cases hjk : j = bucketN s
    · subst hjk
      rw [updN_same]
      exact Sl.keep s3 hu4.keep fun g hg e => h.ne hj (e ▸ hg)
    · rw [updN_other hjk]
      exact Sl.keep (h3 j hj hjk) hu4.keep fun g hg e => h.ne hj (e ▸ hg)
  · rw [hsl] at hg hg'
    exact h.apart i j hi hj hij g hg hg'
  · rw [hsl] at hg
    exact h.own.2 j hj g hg
  · rw [hu4.size, z3, hd.size]; exact h.lt g hg
end

end Go.Proofs.YtgepmlgkeljelaaGreat.Vc
