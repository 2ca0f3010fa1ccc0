/- The document's table (revertref16): what each function does with it. -/
import Derived.Test.YtgepmlgkeljelaaTall
import Derived.Test.YtgepmlgkeljelaaVcR
namespace Go.Proofs.Ytgepmlgkeljelaa.Vc
open Go Go.Proofs

/-- A chunk. -/
structure Chk where
  id : Int
  data : ByteArray
  block : Int
  refs : Int

def encC (c : Chk) : List Value := [.int .u32 c.id, .string c.data, .int .i64 c.block, .int .i64 c.refs]

theorem encC_get : ∀ (L : List Chk) (i j : Nat) (c : Chk), L[i]? = some c → j < 4 → (L.flatMap encC)[i * 4 + j]? = (encC c)[j]?
  | [], _, _, _, h, _ => by cases h
  | d :: L, 0, j, c, h, hj => by
    cases h
    rw [List.flatMap_cons, Nat.zero_mul, Nat.zero_add, List.getElem?_append_left (by simpa [encC] using hj)]
  | d :: L, i + 1, j, c, h, hj => by
    rw [List.flatMap_cons, List.getElem?_append_right (by simp [encC]; omega), show (i + 1) * 4 + j - (encC d).length = i * 4 + j by simp [encC]; omega]
    exact encC_get L i j c (by simpa using h) hj
theorem encC_length (L : List Chk) : (L.flatMap encC).length = L.length * 4 := by
  induction L with
  | nil => rfl
  | cons c L ih => rw [List.flatMap_cons, List.length_append, ih]; simp [encC]; omega
theorem encC_one (L : List Chk) : ∀ u ∈ L.flatMap encC, u.oneCell' = true := by
  intro u hu
  obtain ⟨c, _, hc⟩ := List.mem_flatMap.1 hu
  simp only [encC, List.mem_cons, List.not_mem_nil, or_false] at hc
  rcases hc with rfl | rfl | rfl | rfl <;> rfl

theorem chunkOk : ElemOk P T.«l_revertref16_Chunk» T.«revertref16_Chunk» 4 40 :=
  ⟨Try.underlying50, infoOk (z := .agg ⟨[.int .u32 0, .string (bs []), .int .i64 0, .int .i64 0]⟩) (by kernel_rfl) rfl, by decide⟩

/-- THE DOCUMENT's TABLE IN MEMORY: chunks L, next id nx; its blocks are in S. -/
structure RT (w : World) (b : Nat) (a : Option Addr) (c : Nat) (L : List Chk) (nx : Int) (S : Nat → Prop) : Prop where
  at_ : w.heap[b]? = some (.cells ⟨[.slice a L.length c, .int .u32 nx]⟩ T.«revertref16_Table»)
  row : Sl w T.«revertref16_Chunk» 4 a L.length c (L.flatMap encC)
  own : S b ∧ ∀ g, Blk a g → S g
  lt : ∀ b, S b → b < w.heap.size

namespace RT
variable {w u : World} {b c : Nat} {a : Option Addr} {L : List Chk} {nx : Int} {S S' : Nat → Prop}
theorem ne (h : RT w b a c L nx S) : ¬ Blk a b := fun hb => by
  obtain ⟨cur, hc⟩ := h.row.type hb
  rw [h.at_] at hc
  cases hc
theorem same (h : RT w b a c L nx S) (hs : ∀ g, S g → u.heap[g]? = w.heap[g]?) (hsz : w.heap.size ≤ u.heap.size) : RT u b a c L nx S :=
  ⟨(hs b h.own.1).trans h.at_, h.row.same fun g hg => hs g (h.own.2 g hg), h.own, fun g hg => Nat.lt_of_lt_of_le (h.lt g hg) hsz⟩
theorem keep (h : RT w b a c L nx S) (hk : Keep S' w u) (hd : ∀ g, S g → ¬ S' g) : RT u b a c L nx S :=
  h.same (fun g hg => hk.block g (h.lt g hg) (hd g hg)) hk.size
theorem drew (h : RT w b a c L nx S) (hd : Drew w u) : RT u b a c L nx S := h.keep (Keep.drew NoB hd) fun _ _ h => h
theorem slice (h : RT w b a c L nx S) : w.cell? ((⟨b, 0, none⟩ : Addr).add 0) = some (.slice a L.length c) := cell_at h.at_ rfl
theorem next (h : RT w b a c L nx S) : w.cell? ((⟨b, 0, none⟩ : Addr).add 1) = some (.int .u32 nx) := cell_at h.at_ rfl
/-- A chunk's cell. -/
theorem cell (h : RT w b a c L nx S) {i : Nat} {x : Chk} (hi : L[i]? = some x) : ∃ g, a = some ⟨g, 0, none⟩ ∧ ∀ j v, (encC x)[j]? = some v → w.cell? (((⟨g, 0, none⟩ : Addr).add (i * 4)).add j) = some v := by
  have hlt : i < L.length := (List.getElem?_eq_some_iff.1 hi).1
  obtain ⟨g, rfl⟩ := h.row.some (by omega)
  refine ⟨g, rfl, fun j v hv => ?_⟩
  have hj : j < 4 := by have := (List.getElem?_eq_some_iff.1 hv).1; simpa [encC] using this
  rw [add_add' _ rfl, add_mk, Nat.zero_add]
  exact (h.row.cell ((encC_get L i j x hi hj).trans hv)).2
theorem len_le (h : RT w b a c L nx S) : (L.length : Int) ≤ 9223372036854775807 := by
  have := Nat.le_trans h.row.le h.row.cap_le
  simp only [maxLen] at this; omega
end RT

/-- Where an id stands. -/
def atI (L : List Chk) (id : Int) : Int := match L.findIdx? (fun c => c.id == id) with | some i => i | none => -1
def findI (L : List Chk) (d : ByteArray) : Int := match L.findIdx? (fun c => c.data.toList == d.toList) with | some i => i | none => -1

theorem findIdx_step (p : Chk → Bool) : ∀ (L : List Chk) (i : Nat) (x : Chk), L[i]? = some x → (∀ c ∈ L.take i, p c = false) → p x = true → L.findIdx? p = some i
  | [], i, x, h, _, _ => by cases h
  | d :: L, 0, x, h, _, hp => by cases h; simp [List.findIdx?_cons, hp]
  | d :: L, i + 1, x, h, hn, hp => by
    have hd : p d = false := hn d (by simp)
    rw [List.findIdx?_cons, hd]
    simp only [Bool.false_eq_true, if_false]
    rw [findIdx_step p L i x (by simpa using h) (fun c hc => hn c (by simp [hc])) hp]
    rfl
theorem findIdx_none (p : Chk → Bool) (L : List Chk) (h : ∀ c ∈ L, p c = false) : L.findIdx? p = none := by
  rw [List.findIdx?_eq_none_iff]; exact h

section
variable {w : World} {b c : Nat} {a : Option Addr} {L : List Chk} {nx : Int} {S : Nat → Prop}

theorem ref_At (h : RT w b a c L nx S) (id : Int) : Calls P F.«revertref16_Table_At» ⟨[.pointer (some ⟨b, 0, none⟩), .int .u32 id]⟩ w fun e w' => e = .returned (.int .i64 (atI L id)) ∧ w = w' := by
  refine ok_revertref16_Table_At ⟨fun t w' => w' = w ∧ ∃ i : Nat, t.1 = i ∧ i ≤ L.length ∧ ∀ x ∈ L.take i, (x.id == id) = false, fun t _ => L.length - t.1.toNat, ⟨rfl, 0, rfl, by omega, by simp⟩, ?_⟩
  rintro _ _ _ ⟨rfl, i, rfl, hi, hn⟩
  have hll := h.len_le
  refine ⟨_, _, _, h.slice, bcase_mk (fun hb => ?_) (fun hb => ?_)⟩
  · have hlt : i < L.length := by have := of_decide_eq_true hb; omega
    have hx : L[i]? = some L[i] := List.getElem?_eq_getElem hlt
    obtain ⟨g, rfl, hc⟩ := h.cell hx
    refine ⟨_, _, _, h.slice, ⟨by omega, by omega⟩, _, hc 0 _ rfl, bcase_mk (fun he => ?_) (fun he => ?_)⟩
    · refine ⟨?_, rfl⟩
      rw [atI, findIdx_step _ L i _ hx hn he]
    · rw [wrap64 (by omega) (by omega)]
      refine ⟨⟨rfl, i + 1, by simp, by omega, fun x hx' => ?_⟩, by show L.length - ((i : Int) + 1).toNat < L.length - (i : Int).toNat; omega⟩
      rw [List.take_add_one, hx] at hx'
      simp only [Option.toList_some, List.mem_append, List.mem_singleton] at hx'
      rcases hx' with hx' | rfl
      · exact hn x hx'
      · exact he
  · have hge : i = L.length := by have := of_decide_eq_false hb; omega
    subst hge
    refine ⟨?_, rfl⟩
    rw [atI, findIdx_none _ L (by simpa using hn)]

theorem ref_Find (h : RT w b a c L nx S) (d : ByteArray) : Calls P F.«revertref16_Table_Find» ⟨[.pointer (some ⟨b, 0, none⟩), .string d]⟩ w fun e w' => e = .returned (.int .i64 (findI L d)) ∧ w = w' := by
  refine ok_revertref16_Table_Find ⟨fun t w' => w' = w ∧ ∃ i : Nat, t.1 = i ∧ i ≤ L.length ∧ ∀ x ∈ L.take i, (x.data.toList == d.toList) = false, fun t _ => L.length - t.1.toNat, ⟨rfl, 0, rfl, by omega, by simp⟩, ?_⟩
  rintro _ _ _ ⟨rfl, i, rfl, hi, hn⟩
  have hll := h.len_le
  refine ⟨_, _, _, h.slice, bcase_mk (fun hb => ?_) (fun hb => ?_)⟩
  · have hlt : i < L.length := by have := of_decide_eq_true hb; omega
    have hx : L[i]? = some L[i] := List.getElem?_eq_getElem hlt
    obtain ⟨g, rfl, hc⟩ := h.cell hx
    refine ⟨_, _, _, h.slice, ⟨by omega, by omega⟩, _, hc 1 _ rfl, bcase_mk (fun he => ?_) (fun he => ?_)⟩
    · refine ⟨?_, rfl⟩
      rw [findI, findIdx_step _ L i _ hx hn he]
    · rw [wrap64 (by omega) (by omega)]
      refine ⟨⟨rfl, i + 1, by simp, by omega, fun x hx' => ?_⟩, by show L.length - ((i : Int) + 1).toNat < L.length - (i : Int).toNat; omega⟩
      rw [List.take_add_one, hx] at hx'
      simp only [Option.toList_some, List.mem_append, List.mem_singleton] at hx'
      rcases hx' with hx' | rfl
      · exact hn x hx'
      · exact he
  · have hge : i = L.length := by have := of_decide_eq_false hb; omega
    subst hge
    refine ⟨?_, rfl⟩
    rw [findI, findIdx_none _ L (by simpa using hn)]
end

end Go.Proofs.Ytgepmlgkeljelaa.Vc
