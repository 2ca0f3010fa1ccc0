/- The document's table (revertref16): the functions that write. -/
import Derived.Test.YtgepmlgkeljelaaDdRef
namespace Go.Proofs.Ytgepmlgkeljelaa.Vc
open Go Go.Proofs

/-- A chunk in its place. -/
def insC (x : Chk) : List Chk → List Chk
  | [] => [x]
  | c :: L => if c.id < x.id then c :: insC x L else x :: c :: L

theorem insC_split (x : Chk) : ∀ (p q : List Chk), (∀ c ∈ p, c.id < x.id) → (∀ c, q.head? = some c → ¬ c.id < x.id) → insC x (p ++ q) = p ++ x :: q
  | [], [], _, _ => rfl
  | [], c :: q, _, h => by simp [insC, h c rfl]
  | c :: p, q, h, hq => by
    rw [List.cons_append, insC, if_pos (h c (by simp)), insC_split x p q (fun d hd => h d (by simp [hd])) hq]
    rfl
theorem insC_length (x : Chk) (L : List Chk) : (insC x L).length = L.length + 1 := by
  induction L with
  | nil => rfl
  | cons c L ih => unfold insC; split <;> simp [ih]

theorem flat_take (L : List Chk) (k : Nat) : (L.flatMap encC).take (k * 4) = (L.take k).flatMap encC := by
  induction L generalizing k with
  | nil => simp
  | cons c L ih =>
    cases k with
    | zero => simp
    | succ k =>
      rw [List.flatMap_cons, List.take_succ_cons, List.flatMap_cons, ← ih]
      rw [List.take_append, List.take_of_length_le (by simp [encC]; omega)]
      congr 2
      simp [encC]; omega
theorem flat_drop (L : List Chk) (k : Nat) : (L.flatMap encC).drop (k * 4) = (L.drop k).flatMap encC := by
  induction L generalizing k with
  | nil => simp
  | cons c L ih =>
    cases k with
    | zero => simp
    | succ k =>
      rw [List.flatMap_cons, List.drop_succ_cons, ← ih]
      rw [List.drop_append, List.drop_of_length_le (by simp [encC]; omega), List.nil_append]
      congr 1
      simp [encC]; omega

section
variable {w : World} {b c : Nat} {a : Option Addr} {L : List Chk} {nx : Int} {S : Nat → Prop}

/-- Behind a store into the table's own block. -/
theorem RT.store {u : World} {o : Obj} {a' : Option Addr} {c' : Nat} {L' : List Chk} {nx' : Int} {S' : Nat → Prop} (hu : Set1 w b o u) (ho : o = .cells ⟨[.slice a' L'.length c', .int .u32 nx']⟩ T.«revertref16_Table»)
    (hr : Sl w T.«revertref16_Chunk» 4 a' L'.length c' (L'.flatMap encC)) (hne : ¬ Blk a' b) (hb : S' b) (hS : ∀ g, Blk a' g → S' g) (hlt : ∀ g, S' g → g < w.heap.size) : RT u b a' c' L' nx' S' :=
  ⟨by rw [hu.at_, ho], hr.keep hu.keep fun g hg e => hne (e ▸ hg), ⟨hb, hS⟩, fun g hg => by rw [hu.size]; exact hlt g hg⟩

theorem ref_New (w : World) : Calls P F.«revertref16_New» ⟨[]⟩ w fun e w' => e = .returned (.pointer (some ⟨w.heap.size, 0, none⟩)) ∧ Keep NoB w w' ∧ RT w' w.heap.size none 0 [] 1 (Ext NoB w w') := by
  refine ok_revertref16_New ?_
  unfold V_revertref16_New
  refine (alloc_step fun u hu => ⟨rfl, hu.keep, hu.at_, Sl.nil _ _ _, ⟨.inr ⟨Nat.le_refl _, by rw [hu.size]; omega⟩, fun g hg => absurd hg Blk.none⟩, fun g hg => ?_⟩)
  rcases hg with hg | hg
  · exact hg.elim
  · exact hg.2

theorem ref_put (h : RT w b a c L nx S) (x : Chk) (hlen : L.length ≤ 1000) (hid : 0 ≤ x.id ∧ x.id < 4294967295) :
    Calls P F.«revertref16_Table_put» ⟨[.pointer (some ⟨b, 0, none⟩), .agg ⟨encC x⟩]⟩ w fun e w' => e = .returned (.tuple ⟨[]⟩) ∧ Keep S w w' ∧ ∃ a' c', RT w' b a' c' (insC x L) (if x.id ≥ nx then x.id + 1 else nx) (Ext S w w') := by
  refine ok_revertref16_Table_put ?_
  unfold V_revertref16_Table_put
  refine alloc_step fun u0 hu0 => ?_
  have h0 : RT u0 b a c L nx S := h.keep hu0.keep fun _ _ h => h
  have hbx := hu0.at_
  refine ⟨fun t w' => Drew u0 w' ∧ ∃ k : Nat, t.1 = k ∧ k ≤ L.length ∧ (∀ c ∈ L.take k, c.id < x.id) ∧ (∀ c, L[k]? = some c → ¬ c.id < x.id), ?_, ?_⟩
  · refine ⟨fun t w' => Drew u0 w' ∧ ∃ k : Nat, t.1 = k ∧ k ≤ L.length ∧ (∀ c ∈ L.take k, c.id < x.id), fun t _ => L.length - t.1.toNat, ⟨Drew.refl _, 0, rfl, by omega, by simp⟩, ?_⟩
    rintro _ _ w1 ⟨hd, k, rfl, hk, hl⟩
    have h1 := h0.drew hd
    refine ⟨_, _, _, h1.slice, bcase_mk (fun hb => ?_) (fun hb => ?_)⟩
    · have hlt : k < L.length := by have := of_decide_eq_true hb; omega
      have hx : L[k]? = some L[k] := List.getElem?_eq_getElem hlt
      obtain ⟨g, rfl, hc⟩ := h1.cell hx
      refine ⟨_, _, _, h1.slice, ⟨by omega, by omega⟩, _, hc 0 _ rfl, _, cell_at (hd.at_ hbx) rfl, fun w2 hd2 => bcase_mk (fun he => ?_) (fun he => ?_)⟩
      · rw [wrap64 (by omega) (by omega)]
        refine ⟨⟨hd.trans hd2, k + 1, by simp, by omega, fun c hc' => ?_⟩, by show L.length - ((k : Int) + 1).toNat < L.length - (k : Int).toNat; omega⟩
        rw [List.take_add_one, hx] at hc'
        simp only [Option.toList_some, List.mem_append, List.mem_singleton] at hc'
        rcases hc' with hc' | rfl
        · exact hl c hc'
        · exact of_decide_eq_true he
      · exact ⟨hd.trans hd2, k, rfl, hk, hl, fun c hc' => by rw [hx] at hc'; cases hc'; exact of_decide_eq_false he⟩
    · have hge : k = L.length := by have := of_decide_eq_false hb; omega
      exact fun w2 hd2 => ⟨hd.trans hd2, k, rfl, hk, hl, fun c hc' => by rw [hge, List.getElem?_eq_none (Nat.le_refl _)] at hc'; cases hc'⟩
  · rintro _ _ w1 ⟨hd, k, rfl, hk, hl, hg⟩
    have h1 := h0.drew hd
    have k1 : Keep NoB w w1 := hu0.keep.trans (Keep.drew NoB hd) fun _ _ h => h
    have z1 : w1.heap.size = w.heap.size + 1 := hd.size.trans hu0.size
    have hc := h1.row.le
    -- the first part
    obtain ⟨a2, c2, w2, r2, s2, k2, b2⟩ := append_own (ty := T.«l_revertref16_Chunk») chunkOk (Sl.nil w1 T.«revertref16_Chunk» 4) (h1.row.src (lo := 0) (hi := k) (Nat.zero_le _) hk) (fun u hu => encC_one L u (by simpa using List.mem_of_mem_take hu)) (by omega)
    simp only [Nat.zero_mul, List.drop_zero, Nat.sub_zero, flat_take, List.nil_append, Nat.zero_add] at r2 s2
    have k12 : Keep NoB w w2 := k1.andThen k2 fun g hg => absurd hg Blk.none
    have e2 : w2.heap[w.heap.size]? = _ := k2.at_ (hd.at_ hbx) Blk.none
    -- the chunk
    obtain ⟨w3, r3, n3⟩ := buildSlice_one (P := P) (w := w2) chunkOk (.agg ⟨encC x⟩) rfl (by decide)
    have s3 : Sl w3 T.«revertref16_Chunk» 4 a2 k c2 ((L.take k).flatMap encC) := s2.keep n3.keep fun _ _ h => h
    have x3 : Src w3 4 (some ⟨w2.heap.size, 0, none⟩) 1 1 (encC x) := ⟨rfl, .inr ⟨_, rfl, fun j u hj => cell_at n3.at_ (show (⟨encC x⟩ : Array Value)[0 + j]? = some u by simpa using hj)⟩⟩
    obtain ⟨a4, c4, w4, r4, s4, k4, b4⟩ := append_own (ty := T.«l_revertref16_Chunk») chunkOk s3 x3 (fun u hu => encC_one [x] u (by simpa using hu)) (by omega)
    have z2 := k2.size
    have hb2 : ∀ g, Blk a2 g → w.heap.size < g := fun g hg => by rcases b2 g hg with h | h; exact absurd h Blk.none; omega
    have z3 := n3.size
    have z4 := k4.size
    have k14 : Keep NoB w w4 := (k12.andThen n3.keep fun _ h => h.elim).trans k4 fun g hlt hg => by have := hb2 g hg; omega
    have h4 : RT w4 b a c L nx S := h.keep k14 fun _ _ h => h
    have e4 : w4.heap[w.heap.size]? = _ := k4.at_ (n3.keep.at_ e2 id) fun hg => by have := hb2 _ hg; omega
    have hb4 : ∀ g, Blk a4 g → w.heap.size < g := fun g hg => by rcases b4 g hg with h | h; exact hb2 g h; omega
    -- the rest
    obtain ⟨a5, c5, w5, r5, s5, k5, b5⟩ := append_own (ty := T.«l_revertref16_Chunk») chunkOk s4 (h4.row.src (lo := k) (hi := L.length) hk (Nat.le_refl _)) (fun u hu => encC_one L u (List.mem_of_mem_drop (List.mem_of_mem_take hu))) (by omega)
    have z5 := k5.size
    have k15 : Keep NoB w w5 := k14.trans k5 fun g hlt hg => by have := hb4 g hg; omega
    have h5 : RT w5 b a c L nx S := h.keep k15 fun _ _ h => h
    have e5 : w5.heap[w.heap.size]? = _ := k5.at_ e4 fun hg => by have := hb4 _ hg; omega
    have hb5 : ∀ g, Blk a5 g → w.heap.size < g := fun g hg => by rcases b5 g hg with h | h; exact hb4 g h; omega
    have hins : insC x L = L.take k ++ x :: L.drop k := by
      conv => lhs; rw [← List.take_append_drop k L]
      exact insC_split x _ _ hl fun c hc => hg c (by simpa [List.head?_drop] using hc)
    have hxs : (L.take k).flatMap encC ++ encC x ++ ((L.flatMap encC).drop (k * 4)).take ((L.length - k) * 4) = (insC x L).flatMap encC := by
      rw [hins, flat_drop, List.take_of_length_le (l := (L.drop k).flatMap encC) (by rw [encC_length, List.length_drop]; exact Nat.le_refl _)]
      simp
    have hn : k + 1 + (L.length - k) = (insC x L).length := by rw [insC_length]; omega
    rw [hxs, hn] at s5
    rw [hn] at r5
    have hblt : b < w.heap.size := h.lt b h.own.1
    refine ⟨_, _, _, h1.slice, ⟨by omega, by omega, by omega, by omega⟩, _, _, _, _, r2, _, _, _, _, ⟨cell_at e2 rfl, cell_at e2 rfl, cell_at e2 rfl, cell_at e2 rfl, trivial⟩, _, _, _, _, r3, _, _, _, _, r4, _, _, _, h4.slice, ⟨by omega, by omega, by omega, by omega⟩, _, _, _, _, r5, ?_⟩
    refine store_step (i := 0) h5.at_ (by simp) fun w6 hu6 => ?_
    have hu6' : Set1 w5 b (.cells ⟨[.slice a5 (insC x L).length c5, .int .u32 nx]⟩ T.«revertref16_Table») w6 := hu6
    have ks6 : Keep S w w6 := (k15.mono fun _ _ h => h.elim).trans hu6'.keep fun g _ hg => by rw [show g = b from hg]; exact h.own.1
    have e6 : w6.heap[w.heap.size]? = _ := hu6'.keep.at_ e5 (by show ¬ w.heap.size = b; omega)
    have s6 : Sl w6 T.«revertref16_Chunk» 4 a5 (insC x L).length c5 ((insC x L).flatMap encC) := s5.keep hu6'.keep fun g hg e => by have := hb5 g hg; have : g = b := e; omega
    have fin : ∀ (w7 : World) (o : Obj) (nx' : Int), o = .cells ⟨[.slice a5 (insC x L).length c5, .int .u32 nx']⟩ T.«revertref16_Table» → ∀ w8, Set1 w7 b o w8 → w7.heap.size = w5.heap.size → Sl w7 T.«revertref16_Chunk» 4 a5 (insC x L).length c5 ((insC x L).flatMap encC) → RT w8 b a5 c5 (insC x L) nx' (Ext S w w8) := by
      intro w7 o nx' ho w8 hu8 sz7 s7
      refine RT.store hu8 ho s7 (fun hb => by have := hb5 _ hb; omega) (.inl h.own.1) (fun g hg => .inr ⟨by have := hb5 g hg; omega, by rw [hu8.size, sz7]; exact s5.lt hg⟩) fun g hg => ?_
      rcases hg with hg | hg
      · have := h.lt g hg; have := k15.size; omega
      · rw [← hu8.size]; exact hg.2
    refine ⟨_, cell_at e6 rfl, _, cell_at hu6'.at_ rfl, fun w7 hd7 => bcase_mk (fun hb => ?_) (fun hb => ?_)⟩
    · refine ⟨_, cell_at (hd7.at_ e6) rfl, store_step (i := 0) (hd7.at_ hu6'.at_) (by simp) fun w8 hu8 => ?_⟩
      rw [wrapU32 (by omega) (by omega)] at hu8
      have : x.id ≥ nx := of_decide_eq_true hb
      rw [if_pos this]
      exact ⟨rfl, (ks6.trans (Keep.drew S hd7) fun _ _ h => h).trans hu8.keep fun g _ hg => by rw [show g = b from hg]; exact h.own.1, _, _, fin w7 _ _ rfl w8 hu8 (hd7.size.trans hu6'.size) (s6.keep (Keep.drew NoB hd7) fun _ _ h => h)⟩
    · have : ¬ x.id ≥ nx := of_decide_eq_false hb
      rw [if_neg this]
      refine ⟨rfl, ks6.trans (Keep.drew S hd7) fun _ _ h => h, a5, c5, ?_⟩
      have h6 : RT w6 b a5 c5 (insC x L) nx (Ext S w w6) := fin w5 _ _ rfl w6 hu6' rfl s5
      rw [show Ext S w w7 = Ext S w w6 by unfold Ext; rw [hd7.size]]
      exact h6.drew hd7
end

end Go.Proofs.Ytgepmlgkeljelaa.Vc
