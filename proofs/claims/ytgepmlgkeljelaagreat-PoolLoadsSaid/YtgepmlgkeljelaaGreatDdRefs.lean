import Derived.Test.YtgepmlgkeljelaaGreatTall
import Derived.Test.YtgepmlgkeljelaaGreatVcR
/- The document's table (revertref16): what each function does with it. -/
namespace Go.Proofs.YtgepmlgkeljelaaGreat.Vc
open Go Go.Proofs

/-- A chunk. -/
structure Chk where
  id : Int
  data : ByteArray
  block : Int
  refs : Int

def encC (c : Chk) : List Value := [.int .u32 c.id, .string c.data, .int .i64 c.block, .int .i64 c.refs]

theorem encC_get : ∀ (L : List Chk) (i j : Nat) (c : Chk), L[i]? = some c → j < 4 → (L.flatMap encC)[i * 4 + j]? = (encC c)[j]?
  | [], _, _, _, h, _ => by cases h
  | d :: L, 0, j, c, h, hj => by
    cases h
    rw [List.flatMap_cons, Nat.zero_mul, Nat.zero_add, List.getElem?_append_left (by simpa [encC] using hj)]
  | d :: L, i + 1, j, c, h, hj => by
    rw [List.flatMap_cons, List.getElem?_append_right (by simp [encC]; omega), show (i + 1) * 4 + j - (encC d).length = i * 4 + j by simp [encC]; omega]
    exact encC_get L i j c (by simpa using h) hj
theorem encC_length (L : List Chk) : (L.flatMap encC).length = L.length * 4 := by
  induction L with
  | nil => rfl
  | cons c L ih => rw [List.flatMap_cons, List.length_append, ih]; simp [encC]; omega
theorem encC_one (L : List Chk) : ∀ u ∈ L.flatMap encC, u.oneCell' = true := by
  intro u hu
  obtain ⟨c, _, hc⟩ := List.mem_flatMap.1 hu
  simp only [encC, List.mem_cons, List.not_mem_nil, or_false] at hc
  rcases hc with rfl | rfl | rfl | rfl <;> rfl

theorem chunkOk : ElemOk P T.«l_revertref16_Chunk» T.«revertref16_Chunk» 4 40 :=
  ⟨Tryz.underlying80, infoOk (z := .agg ⟨[.int .u32 0, .string (bs []), .int .i64 0, .int .i64 0]⟩) (by kernel_rfl) rfl, by decide⟩

/-- THE DOCUMENT's TABLE IN MEMORY: chunks L, next id nx; its blocks are in S. -/
structure RT (w : World) (b : Nat) (a : Option Addr) (c : Nat) (L : List Chk) (nx : Int) (S : Nat → Prop) : Prop where
  at_ : w.heap[b]? = some (.cells ⟨[.slice a L.length c, .int .u32 nx]⟩ T.«revertref16_Table»)
  row : Sl w T.«revertref16_Chunk» 4 a L.length c (L.flatMap encC)
  own : S b ∧ ∀ g, Blk a g → S g
  lt : ∀ b, S b → b < w.heap.size

namespace RT
variable {w u : World} {b c : Nat} {a : Option Addr} {L : List Chk} {nx : Int} {S S' : Nat → Prop}
theorem ne (h : RT w b a c L nx S) : ¬ Blk a b := fun hb => by
  obtain ⟨cur, hc⟩ := h.row.type hb
  rw [h.at_] at hc
  cases hc
theorem same (h : RT w b a c L nx S) (hs : ∀ g, S g → u.heap[g]? = w.heap[g]?) (hsz : w.heap.size ≤ u.heap.size) : RT u b a c L nx S :=
  ⟨(hs b h.own.1).trans h.at_, h.row.same fun g hg => hs g (h.own.2 g hg), h.own, fun g hg => Nat.lt_of_lt_of_le (h.lt g hg) hsz⟩
theorem keep (h : RT w b a c L nx S) (hk : Keep S' w u) (hd : ∀ g, S g → ¬ S' g) : RT u b a c L nx S :=
  h.same (fun g hg => hk.block g (h.lt g hg) (hd g hg)) hk.size
theorem drew (h : RT w b a c L nx S) (hd : Drew w u) : RT u b a c L nx S := h.keep (Keep.drew NoB hd) fun _ _ h => h
theorem slice (h : RT w b a c L nx S) : w.cell? ((⟨b, 0, none⟩ : Addr).add 0) = some (.slice a L.length c) := cell_at h.at_ rfl
theorem next (h : RT w b a c L nx S) : w.cell? ((⟨b, 0, none⟩ : Addr).add 1) = some (.int .u32 nx) := cell_at h.at_ rfl
/-- A chunk's cell. -/
theorem cell (h : RT w b a c L nx S) {i : Nat} {x : Chk} (hi : L[i]? = some x) : ∃ g, a = some ⟨g, 0, none⟩ ∧ ∀ j v, (encC x)[j]? = some v → w.cell? (((⟨g, 0, none⟩ : Addr).add (i * 4)).add j) = some v := by
  have hlt : i < L.length := (List.getElem?_eq_some_iff.1 hi).1
  obtain ⟨g, rfl⟩ := h.row.some (by omega)
  refine ⟨g, rfl, fun j v hv => ?_⟩
  have hj : j < 4 := by have := (List.getElem?_eq_some_iff.1 hv).1; simpa [encC] using this
  rw [add_add' _ rfl, add_mk, Nat.zero_add]
  exact (h.row.cell ((encC_get L i j x hi hj).trans hv)).2
theorem len_le (h : RT w b a c L nx S) : (L.length : Int) ≤ 9223372036854775807 := by
  have := Nat.le_trans h.row.le h.row.cap_le
  simp only [maxLen] at this; omega
end RT

/-- Where an id stands. -/
def atI (L : List Chk) (id : Int) : Int := match L.findIdx? (fun c => c.id == id) with | some i => i | none => -1
def findI (L : List Chk) (d : ByteArray) : Int := match L.findIdx? (fun c => c.data.toList == d.toList) with | some i => i | none => -1

theorem findIdx_step (p : Chk → Bool) : ∀ (L : List Chk) (i : Nat) (x : Chk), L[i]? = some x → (∀ c ∈ L.take i, p c = false) → p x = true → L.findIdx? p = some i
  | [], i, x, h, _, _ => by cases h
  | d :: L, 0, x, h, _, hp => by cases h; simp [List.findIdx?_cons, hp]
  | d :: L, i + 1, x, h, hn, hp => by
    have hd : p d = false := hn d (by simp)
    rw [List.findIdx?_cons, hd]
    simp only [Bool.false_eq_true, if_false]
    rw [findIdx_step p L i x (by simpa using h) (fun c hc => hn c (by simp [hc])) hp]
    rfl
theorem findIdx_none (p : Chk → Bool) (L : List Chk) (h : ∀ c ∈ L, p c = false) : L.findIdx? p = none := by
  rw [List.findIdx?_eq_none_iff]; exact h

section
variable {w : World} {b c : Nat} {a : Option Addr} {L : List Chk} {nx : Int} {S : Nat → Prop}

theorem ref_At (h : RT w b a c L nx S) (id : Int) : Calls P F.«revertref16_Table_At» ⟨[.pointer (some ⟨b, 0, none⟩), .int .u32 id]⟩ w fun e w' => e = .returned (.int .i64 (atI L id)) ∧ w = w' := by
  refine ok_revertref16_Table_At ⟨fun t w' => w' = w ∧ ∃ i : Nat, t.1 = i ∧ i ≤ L.length ∧ ∀ x ∈ L.take i, (x.id == id) = false, fun t _ => L.length - t.1.toNat, ⟨rfl, 0, rfl, by omega, by simp⟩, ?_⟩
  rintro _ _ _ ⟨rfl, i, rfl, hi, hn⟩
  have hll := h.len_le
  refine ⟨_, _, _, h.slice, bcase_mk (fun hb => ?_) (fun hb => ?_)⟩
  · have hlt : i < L.length := by have := of_decide_eq_true hb; omega
    have hx : L[i]? = some L[i] := List.getElem?_eq_getElem hlt
    obtain ⟨g, rfl, hc⟩ := h.cell hx
    refine ⟨_, _, _, h.slice, ⟨by omega, by omega⟩, _, hc 0 _ rfl, bcase_mk (fun he => ?_) (fun he => ?_)⟩
    · refine ⟨?_, rfl⟩
      rw [atI, findIdx_step _ L i _ hx hn he]
    · rw [wrap64 (by omega) (by omega)]
      refine ⟨⟨rfl, i + 1, by simp, by omega, fun x hx' => ?_⟩, by show L.length - ((i : Int) + 1).toNat < L.length - (i : Int).toNat; omega⟩
      rw [List.take_add_one, hx] at hx'
      simp only [Option.toList_some, List.mem_append, List.mem_singleton] at hx'
      rcases hx' with hx' | rfl
      · exact hn x hx'
      · exact he
  · have hge : i = L.length := by have := of_decide_eq_false hb; omega
    subst hge
    refine ⟨?_, rfl⟩
    rw [atI, findIdx_none _ L (by simpa using hn)]

theorem ref_Find (h : RT w b a c L nx S) (d : ByteArray) : Calls P F.«revertref16_Table_Find» ⟨[.pointer (some ⟨b, 0, none⟩), .string d]⟩ w fun e w' => e = .returned (.int .i64 (findI L d)) ∧ w = w' := by
  refine ok_revertref16_Table_Find ⟨fun t w' => w' = w ∧ ∃ i : Nat, t.1 = i ∧ i ≤ L.length ∧ ∀ x ∈ L.take i, (x.data.toList == d.toList) = false, fun t _ => L.length - t.1.toNat, ⟨rfl, 0, rfl, by omega, by simp⟩, ?_⟩
  rintro _ _ _ ⟨rfl, i, rfl, hi, hn⟩
  have hll := h.len_le
  refine ⟨_, _, _, h.slice, bcase_mk (fun hb => ?_) (fun hb => ?_)⟩
  · have hlt : i < L.length := by have := of_decide_eq_true hb; omega
    have hx : L[i]? = some L[i] := List.getElem?_eq_getElem hlt
    obtain ⟨g, rfl, hc⟩ := h.cell hx
    refine ⟨_, _, _, h.slice, ⟨by omega, by omega⟩, _, hc 1 _ rfl, bcase_mk (fun he => ?_) (fun he => ?_)⟩
    · refine ⟨?_, rfl⟩
      rw [findI, findIdx_step _ L i _ hx hn he]
    · rw [wrap64 (by omega) (by omega)]
      refine ⟨⟨rfl, i + 1, by simp, by omega, fun x hx' => ?_⟩, by show L.length - ((i : Int) + 1).toNat < L.length - (i : Int).toNat; omega⟩
      rw [List.take_add_one, hx] at hx'
      simp only [Option.toList_some, List.mem_append, List.mem_singleton] at hx'
      rcases hx' with hx' | rfl
      · exact hn x hx'
      · exact he
  · have hge : i = L.length := by have := of_decide_eq_false hb; omega
    subst hge
    refine ⟨?_, rfl⟩
    rw [findI, findIdx_none _ L (by simpa using hn)]
end

end Go.Proofs.YtgepmlgkeljelaaGreat.Vc

/- The document's table (revertref16): the functions that write. -/
namespace Go.Proofs.YtgepmlgkeljelaaGreat.Vc
open Go Go.Proofs

/-- A chunk in its place. -/
def insC (x : Chk) : List Chk → List Chk
  | [] => [x]
  | c :: L => if c.id < x.id then c :: insC x L else x :: c :: L

theorem insC_split (x : Chk) : ∀ (p q : List Chk), (∀ c ∈ p, c.id < x.id) → (∀ c, q.head? = some c → ¬ c.id < x.id) → insC x (p ++ q) = p ++ x :: q
  | [], [], _, _ => rfl
  | [], c :: q, _, h => by simp [insC, h c rfl]
  | c :: p, q, h, hq => by
    rw [List.cons_append, insC, if_pos (h c (by simp)), insC_split x p q (fun d hd => h d (by simp [hd])) hq]
    rfl
theorem insC_length (x : Chk) (L : List Chk) : (insC x L).length = L.length + 1 := by
  induction L with
  | nil => rfl
  | cons c L ih => unfold insC; split <;> simp [ih]

theorem flat_take (L : List Chk) (k : Nat) : (L.flatMap encC).take (k * 4) = (L.take k).flatMap encC := by
  induction L generalizing k with
  | nil => simp
  | cons c L ih =>
    cases k with
    | zero => simp
    | succ k =>
      rw [List.flatMap_cons, List.take_succ_cons, List.flatMap_cons, ← ih]
      rw [List.take_append, List.take_of_length_le (by simp [encC]; omega)]
      congr 2
      simp [encC]; omega
theorem flat_drop (L : List Chk) (k : Nat) : (L.flatMap encC).drop (k * 4) = (L.drop k).flatMap encC := by
  induction L generalizing k with
  | nil => simp
  | cons c L ih =>
    cases k with
    | zero => simp
    | succ k =>
      rw [List.flatMap_cons, List.drop_succ_cons, ← ih]
      rw [List.drop_append, List.drop_of_length_le (by simp [encC]; omega), List.nil_append]
      congr 1
      simp [encC]; omega

section
variable {w : World} {b c : Nat} {a : Option Addr} {L : List Chk} {nx : Int} {S : Nat → Prop}

/-- Behind a store into the table's own block. -/
theorem RT.store {u : World} {o : Obj} {a' : Option Addr} {c' : Nat} {L' : List Chk} {nx' : Int} {S' : Nat → Prop} (hu : Set1 w b o u) (ho : o = .cells ⟨[.slice a' L'.length c', .int .u32 nx']⟩ T.«revertref16_Table»)
    (hr : Sl w T.«revertref16_Chunk» 4 a' L'.length c' (L'.flatMap encC)) (hne : ¬ Blk a' b) (hb : S' b) (hS : ∀ g, Blk a' g → S' g) (hlt : ∀ g, S' g → g < w.heap.size) : RT u b a' c' L' nx' S' :=
  ⟨by rw [hu.at_, ho], hr.keep hu.keep fun g hg e => hne (e ▸ hg), ⟨hb, hS⟩, fun g hg => by rw [hu.size]; exact hlt g hg⟩

theorem ref_New (w : World) : Calls P F.«revertref16_New» ⟨[]⟩ w fun e w' => e = .returned (.pointer (some ⟨w.heap.size, 0, none⟩)) ∧ Keep NoB w w' ∧ RT w' w.heap.size none 0 [] 1 (Ext NoB w w') := by
  refine ok_revertref16_New ?_
  unfold V_revertref16_New
  refine (alloc_step fun u hu => ⟨rfl, hu.keep, hu.at_, Sl.nil _ _ _, ⟨.inr ⟨Nat.le_refl _, by rw [hu.size]; omega⟩, fun g hg => absurd hg Blk.none⟩, fun g hg => ?_⟩)
  rcases hg with hg | hg
  · exact hg.elim
  · exact hg.2

theorem ref_put (h : RT w b a c L nx S) (x : Chk) (hlen : L.length ≤ 1000) (hid : 0 ≤ x.id ∧ x.id < 4294967295) :
    Calls P F.«revertref16_Table_put» ⟨[.pointer (some ⟨b, 0, none⟩), .agg ⟨encC x⟩]⟩ w fun e w' => e = .returned (.tuple ⟨[]⟩) ∧ Keep S w w' ∧ ∃ a' c', RT w' b a' c' (insC x L) (if x.id ≥ nx then x.id + 1 else nx) (Ext S w w') := by
  refine ok_revertref16_Table_put ?_
  unfold V_revertref16_Table_put
  refine alloc_step fun u0 hu0 => ?_
  have h0 : RT u0 b a c L nx S := h.keep hu0.keep fun _ _ h => h
  have hbx := hu0.at_
  refine ⟨fun t w' => Drew u0 w' ∧ ∃ k : Nat, t.1 = k ∧ k ≤ L.length ∧ (∀ c ∈ L.take k, c.id < x.id) ∧ (∀ c, L[k]? = some c → ¬ c.id < x.id), ?_, ?_⟩
  · refine ⟨fun t w' => Drew u0 w' ∧ ∃ k : Nat, t.1 = k ∧ k ≤ L.length ∧ (∀ c ∈ L.take k, c.id < x.id), fun t _ => L.length - t.1.toNat, ⟨Drew.refl _, 0, rfl, by omega, by simp⟩, ?_⟩
    rintro _ _ w1 ⟨hd, k, rfl, hk, hl⟩
    have h1 := h0.drew hd
    refine ⟨_, _, _, h1.slice, bcase_mk (fun hb => ?_) (fun hb => ?_)⟩
    · have hlt : k < L.length := by have := of_decide_eq_true hb; omega
      have hx : L[k]? = some L[k] := List.getElem?_eq_getElem hlt
      obtain ⟨g, rfl, hc⟩ := h1.cell hx
      refine ⟨_, _, _, h1.slice, ⟨by omega, by omega⟩, _, hc 0 _ rfl, _, cell_at (hd.at_ hbx) rfl, fun w2 hd2 => bcase_mk (fun he => ?_) (fun he => ?_)⟩
      · rw [wrap64 (by omega) (by omega)]
        refine ⟨⟨hd.trans hd2, k + 1, by simp, by omega, fun c hc' => ?_⟩, by show L.length - ((k : Int) + 1).toNat < L.length - (k : Int).toNat; omega⟩
        rw [List.take_add_one, hx] at hc'
        simp only [Option.toList_some, List.mem_append, List.mem_singleton] at hc'
        rcases hc' with hc' | rfl
        · exact hl c hc'
        · exact of_decide_eq_true he
      · exact ⟨hd.trans hd2, k, rfl, hk, hl, fun c hc' => by rw [hx] at hc'; cases hc'; exact of_decide_eq_false he⟩
    · have hge : k = L.length := by have := of_decide_eq_false hb; omega
      exact fun w2 hd2 => ⟨hd.trans hd2, k, rfl, hk, hl, fun c hc' => by rw [hge, List.getElem?_eq_none (Nat.le_refl _)] at hc'; cases hc'⟩
  · rintro _ _ w1 ⟨hd, k, rfl, hk, hl, hg⟩
    have h1 := h0.drew hd
    have k1 : Keep NoB w w1 := hu0.keep.trans (Keep.drew NoB hd) fun _ _ h => h
    have z1 : w1.heap.size = w.heap.size + 1 := hd.size.trans hu0.size
    have hc := h1.row.le
    -- the first part
    obtain ⟨a2, c2, w2, r2, s2, k2, b2⟩ := append_own (ty := T.«l_revertref16_Chunk») chunkOk (Sl.nil w1 T.«revertref16_Chunk» 4) (h1.row.src (lo := 0) (hi := k) (Nat.zero_le _) hk) (fun u hu => encC_one L u (by simpa using List.mem_of_mem_take hu)) (by omega)
    simp only [Nat.zero_mul, List.drop_zero, Nat.sub_zero, flat_take, List.nil_append, Nat.zero_add] at r2 s2
    have k12 : Keep NoB w w2 := k1.andThen k2 fun g hg => absurd hg Blk.none
    have e2 : w2.heap[w.heap.size]? = _ := k2.at_ (hd.at_ hbx) Blk.none
    -- the chunk
    obtain ⟨w3, r3, n3⟩ := buildSlice_one (P := P) (w := w2) chunkOk (.agg ⟨encC x⟩) rfl (by decide)
    have s3 : Sl w3 T.«revertref16_Chunk» 4 a2 k c2 ((L.take k).flatMap encC) := s2.keep n3.keep fun _ _ h => h
    have x3 : Src w3 4 (some ⟨w2.heap.size, 0, none⟩) 1 1 (encC x) := ⟨rfl, .inr ⟨_, rfl, fun j u hj => cell_at n3.at_ (show (⟨encC x⟩ : Array Value)[0 + j]? = some u by simpa using hj)⟩⟩
    obtain ⟨a4, c4, w4, r4, s4, k4, b4⟩ := append_own (ty := T.«l_revertref16_Chunk») chunkOk s3 x3 (fun u hu => encC_one [x] u (by simpa using hu)) (by omega)
    have z2 := k2.size
    have hb2 : ∀ g, Blk a2 g → w.heap.size < g := fun g hg => by rcases b2 g hg with h | h; exact absurd h Blk.none; omega
    have z3 := n3.size
    have z4 := k4.size
    have k14 : Keep NoB w w4 := (k12.andThen n3.keep fun _ h => h.elim).trans k4 fun g hlt hg => by have := hb2 g hg; omega
    have h4 : RT w4 b a c L nx S := h.keep k14 fun _ _ h => h
    have e4 : w4.heap[w.heap.size]? = _ := k4.at_ (n3.keep.at_ e2 id) fun hg => by have := hb2 _ hg; omega
    have hb4 : ∀ g, Blk a4 g → w.heap.size < g := fun g hg => by rcases b4 g hg with h | h; exact hb2 g h; omega
    -- the rest
    obtain ⟨a5, c5, w5, r5, s5, k5, b5⟩ := append_own (ty := T.«l_revertref16_Chunk») chunkOk s4 (h4.row.src (lo := k) (hi := L.length) hk (Nat.le_refl _)) (fun u hu => encC_one L u (List.mem_of_mem_drop (List.mem_of_mem_take hu))) (by omega)
    have z5 := k5.size
    have k15 : Keep NoB w w5 := k14.trans k5 fun g hlt hg => by have := hb4 g hg; omega
    have h5 : RT w5 b a c L nx S := h.keep k15 fun _ _ h => h
    have e5 : w5.heap[w.heap.size]? = _ := k5.at_ e4 fun hg => by have := hb4 _ hg; omega
    have hb5 : ∀ g, Blk a5 g → w.heap.size < g := fun g hg => by rcases b5 g hg with h | h; exact hb4 g h; omega
    have hins : insC x L = L.take k ++ x :: L.drop k := by
      conv => lhs; rw [← List.take_append_drop k L]
      exact insC_split x _ _ hl fun c hc => hg c (by simpa [List.head?_drop] using hc)
    have hxs : (L.take k).flatMap encC ++ encC x ++ ((L.flatMap encC).drop (k * 4)).take ((L.length - k) * 4) = (insC x L).flatMap encC := by
      rw [hins, flat_drop, List.take_of_length_le (l := (L.drop k).flatMap encC) (by rw [encC_length, List.length_drop]; exact Nat.le_refl _)]
      simp
    have hn : k + 1 + (L.length - k) = (insC x L).length := by rw [insC_length]; omega
    rw [hxs, hn] at s5
    rw [hn] at r5
    have hblt : b < w.heap.size := h.lt b h.own.1
    refine ⟨_, _, _, h1.slice, ⟨by omega, by omega, by omega, by omega⟩, _, _, _, _, r2, _, _, _, _, ⟨cell_at e2 rfl, cell_at e2 rfl, cell_at e2 rfl, cell_at e2 rfl, trivial⟩, _, _, _, _, r3, _, _, _, _, r4, _, _, _, h4.slice, ⟨by omega, by omega, by omega, by omega⟩, _, _, _, _, r5, ?_⟩
    refine store_step (i := 0) h5.at_ (by simp) fun w6 hu6 => ?_
    have hu6' : Set1 w5 b (.cells ⟨[.slice a5 (insC x L).length c5, .int .u32 nx]⟩ T.«revertref16_Table») w6 := hu6
    have ks6 : Keep S w w6 := (k15.mono fun _ _ h => h.elim).trans hu6'.keep fun g _ hg => by rw [show g = b from hg]; exact h.own.1
    have e6 : w6.heap[w.heap.size]? = _ := hu6'.keep.at_ e5 (by show ¬ w.heap.size = b; omega)
    have s6 : Sl w6 T.«revertref16_Chunk» 4 a5 (insC x L).length c5 ((insC x L).flatMap encC) := s5.keep hu6'.keep fun g hg e => by have := hb5 g hg; have : g = b := e; omega
    have fin : ∀ (w7 : World) (o : Obj) (nx' : Int), o = .cells ⟨[.slice a5 (insC x L).length c5, .int .u32 nx']⟩ T.«revertref16_Table» → ∀ w8, Set1 w7 b o w8 → w7.heap.size = w5.heap.size → Sl w7 T.«revertref16_Chunk» 4 a5 (insC x L).length c5 ((insC x L).flatMap encC) → RT w8 b a5 c5 (insC x L) nx' (Ext S w w8) := by
      intro w7 o nx' ho w8 hu8 sz7 s7
      refine RT.store hu8 ho s7 (fun hb => by have := hb5 _ hb; omega) (.inl h.own.1) (fun g hg => .inr ⟨by have := hb5 g hg; omega, by rw [hu8.size, sz7]; exact s5.lt hg⟩) fun g hg => ?_
      rcases hg with hg | hg
      · have := h.lt g hg; have := k15.size; omega
      · rw [← hu8.size]; exact hg.2
    refine ⟨_, cell_at e6 rfl, _, cell_at hu6'.at_ rfl, fun w7 hd7 => bcase_mk (fun hb => ?_) (fun hb => ?_)⟩
    · refine ⟨_, cell_at (hd7.at_ e6) rfl, store_step (i := 0) (hd7.at_ hu6'.at_) (by simp) fun w8 hu8 => ?_⟩
      rw [wrapU32 (by omega) (by omega)] at hu8
      have : x.id ≥ nx := of_decide_eq_true hb
      rw [if_pos this]
      exact ⟨rfl, (ks6.trans (Keep.drew S hd7) fun _ _ h => h).trans hu8.keep fun g _ hg => by rw [show g = b from hg]; exact h.own.1, _, _, fin w7 _ _ rfl w8 hu8 (hd7.size.trans hu6'.size) (s6.keep (Keep.drew NoB hd7) fun _ _ h => h)⟩
    · have : ¬ x.id ≥ nx := of_decide_eq_false hb
      rw [if_neg this]
      refine ⟨rfl, ks6.trans (Keep.drew S hd7) fun _ _ h => h, a5, c5, ?_⟩
      have h6 : RT w6 b a5 c5 (insC x L) nx (Ext S w w6) := fin w5 _ _ rfl w6 hu6' rfl s5
      rw [show Ext S w w7 = Ext S w w6 by unfold Ext; rw [hd7.size]]
      exact h6.drew hd7
end

end Go.Proofs.YtgepmlgkeljelaaGreat.Vc

/- The document's table (revertref16): Add, Load, Hold, Release, Skip, Copy. -/
namespace Go.Proofs.YtgepmlgkeljelaaGreat.Vc
open Go Go.Proofs

/-- The table behind a call: chunks L, next id nx. -/
def RPost (w : World) (b : Nat) (S : Nat → Prop) (L : List Chk) (nx : Int) (w' : World) : Prop := Keep S w w' ∧ ∃ a' c', RT w' b a' c' L nx (Ext S w w')

section
variable {w : World} {b c : Nat} {a : Option Addr} {L : List Chk} {nx : Int} {S : Nat → Prop}

theorem RT.ext {w' : World} (h : RT w' b a c L nx S) : RT w' b a c L nx (Ext S w w') :=
  ⟨h.at_, h.row, ⟨.inl h.own.1, fun g hg => .inl (h.own.2 g hg)⟩, fun g hg => hg.elim (h.lt g) (·.2)⟩
theorem RPost.same {w' : World} (h : RT w b a c L nx S) (hk : Keep NoB w w') : RPost w b S L nx w' :=
  ⟨hk.mono fun _ _ h => h.elim, a, c, (h.keep hk fun _ _ h => h).ext⟩
theorem Ext.of_new {w0 : World} (hk : w.heap.size ≤ w0.heap.size) {u : World} {g : Nat} (h : Ext S w0 u g) : Ext S w u g := h.imp id fun h => ⟨by omega, h.2⟩
theorem RT.mono {S' : Nat → Prop} (h : RT w b a c L nx S) (hs : ∀ g, S g → S' g) (hl : ∀ g, S' g → g < w.heap.size) : RT w b a c L nx S' := ⟨h.at_, h.row, ⟨hs _ h.own.1, fun g hg => hs g (h.own.2 g hg)⟩, hl⟩
theorem RPost.from {w0 w' : World} (hk : Keep NoB w w0) (h : RPost w0 b S L nx w') (hS : ∀ g, S g → g < w.heap.size) : RPost w b S L nx w' := by
  obtain ⟨h1, a', c', h2⟩ := h
  refine ⟨(hk.mono fun _ _ h => h.elim).trans h1 fun _ _ h => h, a', c', h2.mono (fun g hg => Ext.of_new hk.size hg) fun g hg => ?_⟩
  rcases hg with hg | hg
  · have := hS g hg; have := hk.size; have := h1.size; omega
  · exact hg.2

def addR (L : List Chk) (nx : Int) (d : ByteArray) (blk : Int) : (Int × Int) × (List Chk × Int) :=
  if (d.size : Int) < 1 then ((0, 4), (L, nx)) else if (d.size : Int) > 64 then ((0, 4), (L, nx))
  else if findI L d ≥ 0 then ((0, 6), (L, nx)) else if nx = 4294967295 then ((0, 12), (L, nx))
  else ((nx, 0), (insC ⟨nx, d, blk, 1⟩ L, nx + 1))

theorem ref_Add (h : RT w b a c L nx S) (d : ByteArray) (blk : Int) (hlen : L.length ≤ 1000) (hnx : 0 ≤ nx ∧ nx ≤ 4294967295) :
    Calls P F.«revertref16_Table_Add» ⟨[.pointer (some ⟨b, 0, none⟩), .string d, .int .i64 blk]⟩ w fun e w' => e = .returned (.tuple ⟨[.int .u32 (addR L nx d blk).1.1, .int .i64 (addR L nx d blk).1.2]⟩) ∧
      RPost w b S (addR L nx d blk).2.1 (addR L nx d blk).2.2 w' := by
  have hsame : RPost w b S L nx w := RPost.same h (Keep.refl _ _)
  refine ok_revertref16_Table_Add ?_
  unfold V_revertref16_Table_Add
  refine bcase_mk (fun h1 => ?_) (fun h1 => bcase_mk (fun h2 => ?_) (fun h2 => ?_))
  · have h1 := of_decide_eq_true h1
    simp only [addR, if_pos h1]; exact ⟨by first | exact rfl | exact trivial, hsame⟩
  · have h1 := of_decide_eq_false h1
    have h2 := of_decide_eq_true h2
    simp only [addR, if_neg h1, if_pos h2]; exact ⟨by first | exact rfl | exact trivial, hsame⟩
  · have h1 := of_decide_eq_false h1
    have h2 := of_decide_eq_false h2
    refine (ref_Find h d).mono ?_
    rintro _ _ ⟨rfl, rfl⟩
    refine ⟨_, rfl, bcase_mk (fun h3 => ?_) (fun h3 => ⟨_, h.next, bcase_mk (fun h4 => ?_) (fun h4 => ⟨_, h.next, ?_⟩)⟩)⟩
    · have h3 := of_decide_eq_true h3
      simp only [addR, if_neg h1, if_neg h2, if_pos h3]; exact ⟨by first | exact rfl | exact trivial, hsame⟩
    · have h3 := of_decide_eq_false h3
      have h4 : nx = 4294967295 := by simpa using h4
      simp only [addR, if_neg h1, if_neg h2, if_neg h3, if_pos h4]; exact ⟨by first | exact rfl | exact trivial, hsame⟩
    · have h3 := of_decide_eq_false h3
      have h4 : ¬ nx = 4294967295 := by simpa using h4
      refine (ref_put h ⟨nx, d, blk, 1⟩ hlen ⟨hnx.1, by show nx < _; omega⟩).mono ?_
      rintro _ w' ⟨rfl, hk, a', c', h'⟩
      refine ⟨rfl, ?_⟩
      simp only [addR, if_neg h1, if_neg h2, if_neg h3, if_neg h4]
      exact ⟨by first | exact rfl | exact trivial, hk, a', c', by simpa using h'⟩

def loadR (L : List Chk) (nx : Int) (x : Chk) : Int × (List Chk × Int) :=
  if x.id = 0 then (2, (L, nx)) else if x.id = 4294967295 then (2, (L, nx))
  else if (x.data.size : Int) < 1 then (4, (L, nx)) else if (x.data.size : Int) > 64 then (4, (L, nx))
  else if x.refs < 1 then (4, (L, nx)) else if x.refs > 65535 then (4, (L, nx))
  else if atI L x.id ≥ 0 then (6, (L, nx)) else if findI L x.data ≥ 0 then (6, (L, nx))
  else (0, (insC x L, if x.id ≥ nx then x.id + 1 else nx))

theorem ref_Load (h : RT w b a c L nx S) (x : Chk) (hlen : L.length ≤ 1000) (hid : 0 ≤ x.id ∧ x.id ≤ 4294967295) :
    Calls P F.«revertref16_Table_Load» ⟨[.pointer (some ⟨b, 0, none⟩), .agg ⟨encC x⟩]⟩ w fun e w' => e = .returned (.int .i64 (loadR L nx x).1) ∧ RPost w b S (loadR L nx x).2.1 (loadR L nx x).2.2 w' := by
  refine ok_revertref16_Table_Load ?_
  unfold V_revertref16_Table_Load
  refine alloc_step fun u hu => ?_
  have hsame : RPost w b S L nx u := RPost.same h hu.keep
  have hb := hu.at_
  have hR : RT u b a c L nx S := h.keep hu.keep fun _ _ h => h
  refine ⟨_, cell_at hb rfl, bcase_mk (fun h1 => ?_) (fun h1 => ⟨_, cell_at hb rfl, bcase_mk (fun h2 => ?_) (fun h2 => ⟨_, cell_at hb rfl, bcase_mk (fun h3 => ?_) (fun h3 => ⟨_, cell_at hb rfl, bcase_mk (fun h4 => ?_) (fun h4 => ⟨_, cell_at hb rfl, bcase_mk (fun h5 => ?_) (fun h5 => ⟨_, cell_at hb rfl, bcase_mk (fun h6 => ?_) (fun h6 => ?_)⟩)⟩)⟩)⟩)⟩)⟩
  · have h1 : x.id = 0 := by simpa using h1
    simp only [loadR, if_pos h1]; exact ⟨by first | exact rfl | exact trivial, hsame⟩
  · have h1 : ¬ x.id = 0 := by simpa using h1
    have h2 : x.id = 4294967295 := by simpa using h2
    simp only [loadR, if_neg h1, if_pos h2]; exact ⟨by first | exact rfl | exact trivial, hsame⟩
  all_goals (have h1 : ¬ x.id = 0 := by simpa using h1); (have h2 : ¬ x.id = 4294967295 := by simpa using h2)
  · have h3 := of_decide_eq_true h3
    simp only [loadR, if_neg h1, if_neg h2, if_pos h3]; exact ⟨by first | exact rfl | exact trivial, hsame⟩
  · have h3 := of_decide_eq_false h3
    have h4 := of_decide_eq_true h4
    simp only [loadR, if_neg h1, if_neg h2, if_neg h3, if_pos h4]; exact ⟨by first | exact rfl | exact trivial, hsame⟩
  · have h3 := of_decide_eq_false h3
    have h4 := of_decide_eq_false h4
    have h5 := of_decide_eq_true h5
    simp only [loadR, if_neg h1, if_neg h2, if_neg h3, if_neg h4, if_pos h5]; exact ⟨by first | exact rfl | exact trivial, hsame⟩
  · have h3 := of_decide_eq_false h3
    have h4 := of_decide_eq_false h4
    have h5 := of_decide_eq_false h5
    have h6 := of_decide_eq_true h6
    simp only [loadR, if_neg h1, if_neg h2, if_neg h3, if_neg h4, if_neg h5, if_pos h6]; exact ⟨by first | exact rfl | exact trivial, hsame⟩
  · have h3 := of_decide_eq_false h3
    have h4 := of_decide_eq_false h4
    have h5 := of_decide_eq_false h5
    have h6 := of_decide_eq_false h6
    refine ⟨_, cell_at hb rfl, (ref_At hR x.id).mono ?_⟩
    rintro _ _ ⟨rfl, rfl⟩
    refine ⟨_, rfl, bcase_mk (fun h7 => ?_) (fun h7 => ⟨_, cell_at hb rfl, (ref_Find hR x.data).mono ?_⟩)⟩
    · have h7 := of_decide_eq_true h7
      simp only [loadR, if_neg h1, if_neg h2, if_neg h3, if_neg h4, if_neg h5, if_neg h6, if_pos h7]; exact ⟨by first | exact rfl | exact trivial, hsame⟩
    · have h7 := of_decide_eq_false h7
      rintro _ _ ⟨rfl, rfl⟩
      refine ⟨_, rfl, bcase_mk (fun h8 => ?_) (fun h8 => ⟨_, _, _, _, ⟨cell_at hb rfl, cell_at hb rfl, cell_at hb rfl, cell_at hb rfl, trivial⟩, (ref_put hR x hlen ⟨hid.1, by have := hid.2; omega⟩).mono ?_⟩)⟩
      · have h8 := of_decide_eq_true h8
        simp only [loadR, if_neg h1, if_neg h2, if_neg h3, if_neg h4, if_neg h5, if_neg h6, if_neg h7, if_pos h8]; exact ⟨by first | exact rfl | exact trivial, hsame⟩
      · have h8 := of_decide_eq_false h8
        rintro _ w' ⟨rfl, h'⟩
        refine ⟨rfl, ?_⟩
        simp only [loadR, if_neg h1, if_neg h2, if_neg h3, if_neg h4, if_neg h5, if_neg h6, if_neg h7, if_neg h8]
        exact ⟨by first | exact rfl | exact trivial, RPost.from hu.keep h' h.lt⟩

/-- A chunk with another count. -/
def Chk.with (x : Chk) (n : Int) : Chk := { x with refs := n }

theorem flat_set : ∀ (L : List Chk) (i : Nat) (x : Chk) (n : Int), L[i]? = some x → (L.flatMap encC).set (i * 4 + 3) (.int .i64 n) = (L.set i (x.with n)).flatMap encC
  | [], _, _, _, h => by cases h
  | d :: L, 0, x, n, h => by cases h; simp [encC, Chk.with]
  | d :: L, i + 1, x, n, h => by
    rw [List.flatMap_cons, List.set_append_right _ _ (by simp [encC]; omega), List.set_cons_succ, List.flatMap_cons]
    rw [show (i + 1) * 4 + 3 - (encC d).length = i * 4 + 3 by simp [encC]; omega, flat_set L i x n (by simpa using h)]

/-- A store of a chunk's count. -/
theorem RT.setRefs {u : World} {g : Nat} (h : RT w b (some ⟨g, 0, none⟩) c L nx S) {i : Nat} {x : Chk} (hi : L[i]? = some x) {n : Int} (hu : ∀ cur, w.heap[g]? = some (.cells cur T.«revertref16_Chunk») → Set1 w g (.cells (cur.setIfInBounds (i * 4 + 3) (.int .i64 n)) T.«revertref16_Chunk») u) :
    RT u b (some ⟨g, 0, none⟩) c (L.set i (x.with n)) nx S ∧ Keep S w u := by
  rcases h.row.cases' with ⟨h1, _⟩ | ⟨g', cur, h1, h2, h3, h4, h5, h6⟩
  · cases h1
  · cases h1
    have hu := hu cur h2
    have hl : (L.set i (x.with n)).length = L.length := List.length_set
    have hne : g ≠ b := fun e => h.ne (e ▸ Blk.mk _ _)
    have hlt : i < L.length := (List.getElem?_eq_some_iff.1 hi).1
    refine ⟨⟨?_, ?_, h.own, fun k hk => by rw [hu.size]; exact h.lt k hk⟩, hu.keep.mono fun k _ hk => by rw [show k = g from hk]; exact h.own.2 g (Blk.mk _ _)⟩
    · rw [hl]; exact hu.keep.at_ h.at_ (by show ¬ b = g; exact fun e => hne e.symm)
    · rw [hl, ← flat_set L i x n hi, ← h6]
      have hset : (cur.toList.take (L.length * 4)).set (i * 4 + 3) (.int .i64 n) = (cur.setIfInBounds (i * 4 + 3) (.int .i64 n)).toList.take (L.length * 4) := by
        rw [Array.toList_setIfInBounds, List.take_set]
      rw [hset]
      exact Sl.mk' hu.at_ h3 h4 (by simpa using h5)

theorem store_count {g i : Nat} {n : Int} {K : World → Prop} (h : RT w b (some ⟨g, 0, none⟩) c L nx S) {x : Chk} (hi : L[i]? = some x)
    (hk : ∀ u, RT u b (some ⟨g, 0, none⟩) c (L.set i (x.with n)) nx S → Keep S w u → K u) :
    (∃ old, w.cell? ((((⟨g, 0, none⟩ : Addr).add (i * 4)).add 3).add 0) = some old) ∧ w.frozen? ((((⟨g, 0, none⟩ : Addr).add (i * 4)).add 3).add 0) = false ∧ letW (w.setCell ((((⟨g, 0, none⟩ : Addr).add (i * 4)).add 3).add 0) (.int .i64 n)) K := by
  rcases h.row.cases' with ⟨h1, _⟩ | ⟨g', cur, h1, h2, h3, h4, h5, h6⟩
  · cases h1
  · cases h1
    have hlt : i < L.length := (List.getElem?_eq_some_iff.1 hi).1
    have e : (((⟨g, 0, none⟩ : Addr).add (i * 4)).add 3).add 0 = (⟨g, 0, none⟩ : Addr).add (i * 4 + 3) := by
      simp [add_mk]
    rw [e]
    refine store_step h2 (by rw [h5]; omega) fun u hu => ?_
    rw [Nat.zero_add] at hu
    obtain ⟨r1, r2⟩ := h.setRefs (u := u) hi (n := n) (fun cur' hc => by rw [h2] at hc; cases hc; exact hu)
    exact hk u r1 r2

theorem atI_none (L : List Chk) (id : Int) (h : atI L id < 0) : L.findIdx? (fun c => c.id == id) = none := by
  unfold atI at h
  split at h
  · omega
  · assumption
theorem atI_some {L : List Chk} {id : Int} (h : ¬ atI L id < 0) : ∃ (i : Nat) (x : Chk), atI L id = i ∧ L[i]? = some x ∧ x.id = id := by
  unfold atI at h ⊢
  split at h
  · rename_i i hi
    obtain ⟨h1, h2, _⟩ := List.findIdx?_eq_some_iff_getElem.1 hi
    exact ⟨i, L[i], rfl, List.getElem?_eq_getElem h1, by simpa using h2⟩
  · omega
theorem findI_some {L : List Chk} {d : ByteArray} (h : ¬ findI L d < 0) : ∃ (i : Nat) (x : Chk), findI L d = i ∧ L[i]? = some x ∧ (x.data.toList == d.toList) = true := by
  unfold findI at h ⊢
  split at h
  · rename_i i hi
    obtain ⟨h1, h2, _⟩ := List.findIdx?_eq_some_iff_getElem.1 hi
    exact ⟨i, L[i], rfl, List.getElem?_eq_getElem h1, by simpa using h2⟩
  · omega

def holdR (L : List Chk) (id : Int) : Int × List Chk :=
  if atI L id < 0 then (5, L) else
  match L[(atI L id).toNat]? with
  | none => (5, L)
  | some x => if x.refs ≥ 65535 then (12, L) else (0, L.set (atI L id).toNat (x.with (x.refs + 1)))

theorem ref_Hold (h : RT w b a c L nx S) (id : Int) (hr : ∀ x ∈ L, 1 ≤ x.refs ∧ x.refs ≤ 65535) : Calls P F.«revertref16_Table_Hold» ⟨[.pointer (some ⟨b, 0, none⟩), .int .u32 id]⟩ w fun e w' => e = .returned (.int .i64 (holdR L id).1) ∧ RPost w b S (holdR L id).2 nx w' := by
  refine ok_revertref16_Table_Hold ((ref_At h id).mono ?_)
  rintro _ _ ⟨rfl, rfl⟩
  have hsame : RPost w b S L nx w := RPost.same h (Keep.refl _ _)
  refine ⟨_, rfl, bcase_mk (fun h1 => ?_) (fun h1 => ?_)⟩
  · have h1 := of_decide_eq_true h1
    simp only [holdR, if_pos h1]; exact ⟨by first | exact rfl | exact trivial, hsame⟩
  · have h1 := of_decide_eq_false h1
    obtain ⟨i, x, hi, hx, hid⟩ := atI_some h1
    have hlt : i < L.length := (List.getElem?_eq_some_iff.1 hx).1
    obtain ⟨g, rfl, hc⟩ := h.cell hx
    have hrx := hr x (List.mem_of_getElem? hx)
    rw [hi]
    refine ⟨_, _, _, h.slice, ⟨by omega, by omega⟩, _, hc 3 _ rfl, bcase_mk (fun h2 => ?_) (fun h2 => ⟨_, _, _, h.slice, ⟨by omega, by omega⟩, _, hc 3 _ rfl, ⟨by omega, by omega⟩, store_count (i := i) h hx fun u hu hk => ?_⟩)⟩
    · have h2 := of_decide_eq_true h2
      simp only [holdR, if_neg h1, hi, Int.toNat_natCast, hx, if_pos h2]; exact ⟨by first | exact rfl | exact trivial, hsame⟩
    · have h2 := of_decide_eq_false h2
      rw [wrap64 (by omega) (by omega)] at hu
      simp only [holdR, if_neg h1, hi, Int.toNat_natCast, hx, if_neg h2]
      exact ⟨by first | exact rfl | exact trivial, hk, _, _, hu.ext⟩

def releaseR (L : List Chk) (id : Int) : (Bool × Int) × List Chk :=
  if atI L id < 0 then ((false, 5), L) else
  match L[(atI L id).toNat]? with
  | none => ((false, 5), L)
  | some x => if x.refs - 1 > 0 then ((false, 0), L.set (atI L id).toNat (x.with (x.refs - 1))) else ((true, 0), L.eraseIdx (atI L id).toNat)

theorem ref_Release (h : RT w b a c L nx S) (id : Int) (hlen : L.length ≤ 1000) (hr : ∀ x ∈ L, 1 ≤ x.refs ∧ x.refs ≤ 65535) : Calls P F.«revertref16_Table_Release» ⟨[.pointer (some ⟨b, 0, none⟩), .int .u32 id]⟩ w fun e w' =>
    e = .returned (.tuple ⟨[.bool (releaseR L id).1.1, .int .i64 (releaseR L id).1.2]⟩) ∧ RPost w b S (releaseR L id).2 nx w' := by
  refine ok_revertref16_Table_Release ((ref_At h id).mono ?_)
  rintro _ _ ⟨rfl, rfl⟩
  have hsame : RPost w b S L nx w := RPost.same h (Keep.refl _ _)
  refine ⟨_, rfl, bcase_mk (fun h1 => ?_) (fun h1 => ?_)⟩
  · have h1 := of_decide_eq_true h1
    simp only [releaseR, if_pos h1]; exact ⟨by first | exact rfl | exact trivial, hsame⟩
  · have h1 := of_decide_eq_false h1
    obtain ⟨i, x, hi, hx, hid⟩ := atI_some h1
    have hlt : i < L.length := (List.getElem?_eq_some_iff.1 hx).1
    obtain ⟨g, rfl, hc⟩ := h.cell hx
    have hrx := hr x (List.mem_of_getElem? hx)
    rw [hi]
    refine ⟨_, _, _, h.slice, ⟨by omega, by omega⟩, _, hc 3 _ rfl, ⟨by omega, by omega⟩, store_count (i := i) h hx fun u hu hk => ?_⟩
    rw [wrap64 (by omega) (by omega)] at hu
    have hx' : (L.set i (x.with (x.refs - 1)))[i]? = some (x.with (x.refs - 1)) := by simp [hlt]
    have hl' : (L.set i (x.with (x.refs - 1))).length = L.length := List.length_set
    obtain ⟨g', hg', hc'⟩ := hu.cell hx'
    cases hg'
    have hsl := hu.slice
    rw [hl'] at hsl
    refine ⟨_, _, _, hsl, ⟨by omega, by omega⟩, _, hc' 3 _ rfl, bcase_mk (fun h2 => ?_) (fun h2 => ?_)⟩
    · have h2 : x.refs - 1 > 0 := of_decide_eq_true h2
      simp only [releaseR, if_neg h1, hi, Int.toNat_natCast, hx, if_pos h2]
      exact ⟨by first | exact rfl | exact trivial, hk, _, _, hu.ext⟩
    · have h2 : ¬ x.refs - 1 > 0 := of_decide_eq_false h2
      have hcc := hu.row.le
      rw [hl'] at hcc
      obtain ⟨a2, c2, w2, r2, s2, k2, b2⟩ := append_own (ty := T.«l_revertref16_Chunk») chunkOk (Sl.nil u T.«revertref16_Chunk» 4) (hu.row.src (lo := 0) (hi := i) (Nat.zero_le _) (by omega)) (fun v hv => encC_one _ v (by simpa using List.mem_of_mem_take hv)) (by omega)
      simp only [Nat.zero_mul, List.drop_zero, Nat.sub_zero, flat_take, List.nil_append, Nat.zero_add] at r2 s2
      have k2' : Keep NoB u w2 := k2.mono fun g _ hg => absurd hg Blk.none
      have h2R := hu.keep k2' fun _ _ h => h
      have hsl2 := h2R.slice
      rw [hl'] at hsl2
      have hb2 : ∀ g, Blk a2 g → u.heap.size ≤ g := fun g hg => (b2 g hg).resolve_left Blk.none
      obtain ⟨a3, c3, w3, r3, s3, k3, b3⟩ := append_own (ty := T.«l_revertref16_Chunk») chunkOk s2 (h2R.row.src (lo := i + 1) (hi := L.length) (by omega) (by omega)) (fun v hv => encC_one _ v (List.mem_of_mem_drop (List.mem_of_mem_take hv))) (by omega)
      have hxs : ((L.set i (x.with (x.refs - 1))).take i).flatMap encC ++ (((L.set i (x.with (x.refs - 1))).flatMap encC).drop ((i + 1) * 4)).take ((L.length - (i + 1)) * 4) = (L.eraseIdx i).flatMap encC := by
        rw [flat_drop, List.take_of_length_le (l := ((L.set i (x.with (x.refs - 1))).drop (i + 1)).flatMap encC) (by rw [encC_length, List.length_drop, hl']; exact Nat.le_refl _), ← List.flatMap_append, List.eraseIdx_eq_take_drop_succ]
        simp only [List.take_set, List.drop_set]
        rw [List.set_eq_of_length_le (by rw [List.length_take]; omega), if_pos (by omega)]
      have hn : i + (L.length - (i + 1)) = (L.eraseIdx i).length := by rw [List.length_eraseIdx, if_pos hlt]; omega
      rw [hxs, hn] at s3
      rw [hn] at r3
      have hb3 : ∀ g, Blk a3 g → u.heap.size ≤ g := fun g hg => by rcases b3 g hg with h | h; exact hb2 g h; have := k2.size; omega
      have k3' : Keep NoB u w3 := k2'.trans k3 fun g hg hb => by have := hb2 g hb; omega
      have h3R := hu.keep k3' fun _ _ h => h
      have e1 : IntKind.wrap .i64 ((i : Int) + 1) = ((i + 1 : Nat) : Int) := by rw [wrap64 (by omega) (by omega)]; omega
      rw [e1]
      refine ⟨_, _, _, hsl, ⟨by omega, by omega, by omega, by omega⟩, _, _, _, _, r2, _, _, _, hsl2, ⟨by omega, by omega, by omega, by omega⟩, _, _, _, _, r3, store_step (i := 0) h3R.at_ (by simp) fun w4 hu4 => ?_⟩
      simp only [releaseR, if_neg h1, hi, Int.toNat_natCast, hx, if_neg h2]
      have hsz : w.heap.size ≤ u.heap.size := hk.size
      have hbS : S b := h.own.1
      refine ⟨by first | exact rfl | exact trivial, (hk.trans k3' fun _ _ h => h.elim).trans hu4.keep fun g _ hg => by rw [show g = b from hg]; exact hbS, _, _, RT.store hu4 rfl s3 (fun hb => by have := hb3 _ hb; have := hu.lt b hbS; omega) (.inl hbS) (fun g hg => .inr ⟨by have := hb3 g hg; omega, by rw [hu4.size]; exact s3.lt hg⟩) fun g hg => ?_⟩
      rcases hg with hg | hg
      · have := hu.lt g hg; have := k3'.size; omega
      · rw [← hu4.size]; exact hg.2

theorem ref_Skip (h : RT w b a c L nx S) (n : Int) : Calls P F.«revertref16_Table_Skip» ⟨[.pointer (some ⟨b, 0, none⟩), .int .u32 n]⟩ w fun e w' => e = .returned (.tuple ⟨[]⟩) ∧ RPost w b S L (if n > nx then n else nx) w' := by
  refine ok_revertref16_Table_Skip ⟨_, h.next, bcase_mk (fun h1 => store_step (i := 0) h.at_ (by simp [add_mk]) fun u hu => ?_) (fun h1 => ?_)⟩
  · have h1 : n > nx := of_decide_eq_true h1
    rw [if_pos h1]
    exact ⟨rfl, hu.keep.mono fun g _ hg => by rw [show g = b from hg]; exact h.own.1, _, _, RT.ext (RT.store hu rfl h.row h.ne h.own.1 h.own.2 h.lt)⟩
  · have h1 : ¬ n > nx := of_decide_eq_false h1
    rw [if_neg h1]
    exact ⟨rfl, RPost.same h (Keep.refl _ _)⟩

theorem ref_Copy (h : RT w b a c L nx S) (hlen : L.length ≤ 1000) : Calls P F.«revertref16_Table_Copy» ⟨[.pointer (some ⟨b, 0, none⟩)]⟩ w fun e w' => e = .returned (.pointer (some ⟨w.heap.size, 0, none⟩)) ∧ Keep NoB w w' ∧ ∃ a' c', RT w' w.heap.size a' c' L nx (Ext NoB w w') := by
  refine ok_revertref16_Table_Copy ⟨_, h.next, ?_⟩
  refine alloc_step fun u hu => ⟨_, _, _, cell_at hu.at_ rfl, ?_⟩
  have h1 := h.keep hu.keep fun _ _ h => h
  refine ⟨_, _, _, h1.slice, fun w2 hd => ?_⟩
  have h2 := h1.drew hd
  obtain ⟨a3, c3, w3, r3, s3, k3, b3⟩ := append_own (ty := T.«l_revertref16_Chunk») chunkOk (Sl.nil w2 T.«revertref16_Chunk» 4) h2.row.srcAll (encC_one L) (by omega)
  simp only [List.nil_append, Nat.zero_add] at r3 s3
  have e3 : w3.heap[w.heap.size]? = _ := k3.at_ (hd.at_ hu.at_) Blk.none
  have hb3 : ∀ g, Blk a3 g → w.heap.size < g := fun g hg => by have := (b3 g hg).resolve_left Blk.none; rw [hd.size, hu.size] at this; omega
  have z3 := k3.size
  rw [hd.size, hu.size] at z3
  refine ⟨_, _, _, _, r3, ?_⟩
  have st := store_step (w := w3) (b := w.heap.size) (o := 0) (i := 0) (v := .slice a3 L.length c3) (K := fun u0_1 => (Ending.returned (.pointer (some ⟨w.heap.size, 0, none⟩)) : Ending) = .returned (.pointer (some ⟨w.heap.size, 0, none⟩)) ∧ Keep NoB w u0_1 ∧ ∃ a' c', RT u0_1 w.heap.size a' c' L nx (Ext NoB w u0_1)) e3 (by simp) fun w4 hu4 => by
    refine ⟨rfl, ((hu.keep.trans (Keep.drew NoB hd) fun _ _ h => h).andThen k3 fun g hg => absurd hg Blk.none).trans hu4.keep fun g hg e => by have : g = w.heap.size := e; omega, _, _, RT.store hu4 rfl s3 (fun hb => by have := hb3 _ hb; omega) (.inr ⟨Nat.le_refl _, by rw [hu4.size]; omega⟩) (fun g hg => .inr ⟨by have := hb3 g hg; omega, by rw [hu4.size]; exact s3.lt hg⟩) fun g hg => ?_⟩
    rcases hg with hg | hg
    · exact hg.elim
    · rw [← hu4.size]; exact hg.2
  exact st
end

end Go.Proofs.YtgepmlgkeljelaaGreat.Vc
