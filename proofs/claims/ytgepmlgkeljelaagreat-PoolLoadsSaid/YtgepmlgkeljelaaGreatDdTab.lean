/- Package dedup: the table in memory; what only reads. -/
import Derived.Test.YtgepmlgkeljelaaGreatDdRefs
import Derived.Test.YtgepmlgkeljelaaGreatDdIndex
namespace Go.Proofs.YtgepmlgkeljelaaGreat.Vc
open Go Go.Proofs

/-! ### Structs of three cells -/
theorem set3 {w : World} {b : Nat} {a0 a1 a2 v0 v1 v2 : Value} {ty : TypeId} {K : World → Prop} (h : w.heap[b]? = some (.cells ⟨[a0, a1, a2]⟩ ty)) (hk : ∀ u, Set1 w b (.cells ⟨[v0, v1, v2]⟩ ty) u → K u) :
    (∃ old, w.cell? ((⟨b, 0, none⟩ : Addr).add 0) = some old) ∧ w.frozen? ((⟨b, 0, none⟩ : Addr).add 0) = false ∧ letW (w.setCell ((⟨b, 0, none⟩ : Addr).add 0) v0) fun u1 =>
    (∃ old, u1.cell? ((⟨b, 0, none⟩ : Addr).add 1) = some old) ∧ u1.frozen? ((⟨b, 0, none⟩ : Addr).add 1) = false ∧ letW (u1.setCell ((⟨b, 0, none⟩ : Addr).add 1) v1) fun u2 =>
    (∃ old, u2.cell? ((⟨b, 0, none⟩ : Addr).add 2) = some old) ∧ u2.frozen? ((⟨b, 0, none⟩ : Addr).add 2) = false ∧ letW (u2.setCell ((⟨b, 0, none⟩ : Addr).add 2) v2) K := by
  refine store_step h (by simp) fun u1 h1 => store_step h1.at_ (by simp) fun u2 h2 => store_step h2.at_ (by simp) fun u3 h3 => hk u3 ⟨(h1.keep.trans h2.keep fun _ _ h => h).trans h3.keep fun _ _ h => h, by rw [h3.size, h2.size, h1.size], h3.at_⟩

theorem Set1.new {w u v : World} {o o' : Obj} (h : New w o u) (k : Set1 u w.heap.size o' v) : New w o' v :=
  ⟨h.keep.trans k.keep fun g hg e => by have : g = w.heap.size := e; omega, by rw [k.size, h.size], k.at_⟩

theorem box3 {w : World} {a0 a1 a2 v0 v1 v2 : Value} {ty : TypeId} {K : World → Prop} (hk : ∀ u, New w (.cells ⟨[v0, v1, v2]⟩ ty) u → K u) :
    letW (w.alloc (.cells ⟨[a0, a1, a2]⟩ ty)) fun u0 =>
    (∃ old, u0.cell? ((⟨w.heap.size, 0, none⟩ : Addr).add 0) = some old) ∧ u0.frozen? ((⟨w.heap.size, 0, none⟩ : Addr).add 0) = false ∧ letW (u0.setCell ((⟨w.heap.size, 0, none⟩ : Addr).add 0) v0) fun u1 =>
    (∃ old, u1.cell? ((⟨w.heap.size, 0, none⟩ : Addr).add 1) = some old) ∧ u1.frozen? ((⟨w.heap.size, 0, none⟩ : Addr).add 1) = false ∧ letW (u1.setCell ((⟨w.heap.size, 0, none⟩ : Addr).add 1) v1) fun u2 =>
    (∃ old, u2.cell? ((⟨w.heap.size, 0, none⟩ : Addr).add 2) = some old) ∧ u2.frozen? ((⟨w.heap.size, 0, none⟩ : Addr).add 2) = false ∧ letW (u2.setCell ((⟨w.heap.size, 0, none⟩ : Addr).add 2) v2) K :=
  alloc_step fun _ h0 => set3 h0.at_ fun u h => hk u (Set1.new h0 h)

/-! ### What is in the table -/
def valC (c : Chk) : Value := .agg ⟨[.string c.data, .int .i64 c.block, .int .i64 c.refs]⟩
def kvC (c : Chk) : Value × Value := (.int .u32 c.id, valC c)
def kvE (e : MapEntry) : Value × Value := (e.key, e.val)
def getC (L : List Chk) (id : Int) : Option Chk := L.find? fun c => c.id == id

/-- What holds of chunks and next id. -/
structure WF (L : List Chk) (nx : Int) : Prop where
  sorted : L.Pairwise fun a b => a.id < b.id
  data : L.Pairwise fun a b => a.data ≠ b.data
  rng : ∀ c ∈ L, (1 ≤ c.id ∧ c.id < nx) ∧ (1 ≤ c.data.size ∧ c.data.size ≤ 64) ∧ 1 ≤ c.refs ∧ c.refs ≤ 65535
  nx : 1 ≤ nx ∧ nx ≤ 4294967295

theorem pair_eq {R : Chk → Chk → Prop} {L : List Chk} (h : L.Pairwise R) {a b : Chk} (ha : a ∈ L) (hb : b ∈ L) (h1 : ¬ R a b) (h2 : ¬ R b a) : a = b := by
  induction h with
  | nil => cases ha
  | cons hx _ ih =>
    rcases List.mem_cons.1 ha with ea | ha'
    · rcases List.mem_cons.1 hb with eb | hb'
      · rw [ea, eb]
      · exact absurd (ea ▸ hx b hb') h1
    · rcases List.mem_cons.1 hb with eb | hb'
      · exact absurd (eb ▸ hx a ha') h2
      · exact ih ha' hb'
theorem WF.id_inj {L : List Chk} {nx : Int} (h : WF L nx) {a b : Chk} (ha : a ∈ L) (hb : b ∈ L) (he : a.id = b.id) : a = b := pair_eq h.sorted ha hb (by omega) (by omega)
theorem WF.data_inj {L : List Chk} {nx : Int} (h : WF L nx) {a b : Chk} (ha : a ∈ L) (hb : b ∈ L) (he : a.data = b.data) : a = b := pair_eq h.data ha hb (fun h => h he) (fun h => h he.symm)

theorem getC_some {L : List Chk} {id : Int} {c : Chk} (h : getC L id = some c) : c ∈ L ∧ c.id = id := ⟨List.mem_of_find?_eq_some h, by simpa using List.find?_some h⟩
theorem getC_none {L : List Chk} {id : Int} (h : getC L id = none) : ∀ c ∈ L, c.id ≠ id := fun c hc => by simpa using List.find?_eq_none.1 h c hc
theorem getC_mem {L : List Chk} {nx : Int} (h : WF L nx) {c : Chk} (hc : c ∈ L) : getC L c.id = some c := by
  cases hg : getC L c.id with
  | none => exact absurd rfl (getC_none hg c hc)
  | some d => obtain ⟨h1, h2⟩ := getC_some hg; rw [h.id_inj h1 hc h2]

/-- The map's entries are the chunks. -/
structure Ents (es : List MapEntry) (clk : Nat) (L : List Chk) : Prop where
  perm : (es.map kvE).Perm (L.map kvC)
  born : (es.map (·.born)).Nodup ∧ ∀ e ∈ es, e.born < clk

namespace Ents
variable {es : List MapEntry} {clk : Nat} {L : List Chk} {nx : Int}
theorem mem (h : Ents es clk L) {e : MapEntry} (he : e ∈ es) : ∃ c ∈ L, e.key = .int .u32 c.id ∧ e.val = valC c := by
  have : kvE e ∈ L.map kvC := h.perm.mem_iff.1 (List.mem_map.2 ⟨e, he, rfl⟩)
  obtain ⟨c, hc, hk⟩ := List.mem_map.1 this
  simp only [kvC, kvE, Prod.mk.injEq] at hk
  exact ⟨c, hc, hk.1.symm, hk.2.symm⟩
theorem mem' (h : Ents es clk L) {c : Chk} (hc : c ∈ L) : ∃ e ∈ es, e.key = .int .u32 c.id ∧ e.val = valC c := by
  have : kvC c ∈ es.map kvE := h.perm.mem_iff.2 (List.mem_map.2 ⟨c, hc, rfl⟩)
  obtain ⟨e, he, hk⟩ := List.mem_map.1 this
  simp only [kvC, kvE, Prod.mk.injEq] at hk
  exact ⟨e, he, hk.1, hk.2⟩
theorem like (h : Ents es clk L) (id : Int) : keysLike (.int .u32 id) es := fun e he => by
  obtain ⟨c, _, hk, _⟩ := h.mem he
  rw [hk]; rfl
theorem size (h : Ents es clk L) : es.length = L.length := by simpa using h.perm.length_eq
theorem keyEq_int {id : Int} {v : Value} : keyEq (.int .u32 id) v = true ↔ v = .int .u32 id := by
  constructor
  · intro h; exact (keyEq_eq h).symm
  · rintro rfl; exact keyEq_refl (k := .int .u32 id) rfl
theorem find (h : Ents es clk L) (hw : WF L nx) (id : Int) : mfind (.int .u32 id) es = (getC L id).map valC := by
  cases hm : mfind (.int .u32 id) es with
  | none =>
    cases hg : getC L id with
    | none => rfl
    | some c =>
      obtain ⟨hc, rfl⟩ := getC_some hg
      obtain ⟨e, he, hk, _⟩ := h.mem' hc
      have := mfind_none.1 hm e he
      rw [hk, keyEq_refl (k := .int .u32 c.id) rfl] at this
      cases this
  | some v =>
    obtain ⟨a, e, b, rfl, hk, rfl, _⟩ := mfind_some hm
    obtain ⟨c, hc, hk2, hv⟩ := h.mem (e := e) (by simp)
    rw [hk2] at hk
    have : c.id = id := by have := keyEq_int.1 hk; simpa using this
    subst this
    rw [getC_mem hw hc, hv]; rfl
end Ents

/-- THE TABLE IN MEMORY. -/
structure DP (w : World) (b bm bi : Nat) (sl : SlT) (L : List Chk) (nx : Int) (S SI : Nat → Prop) : Prop where
  at_ : w.heap[b]? = some (.cells ⟨[.map (some bm), .pointer (some ⟨bi, 0, none⟩), .int .u32 nx]⟩ T.«dedup_Table»)
  map : ∃ es clk, w.heap[bm]? = some (.map ⟨es⟩ clk) ∧ Ents es clk L
  index : ∃ ids, HI w bi sl ids SI ∧ ∀ k, k < 16 → (ids k).Perm ((L.filter fun c => bucketN c.data == k).map (·.id))
  own : S b ∧ S bm ∧ ∀ g, SI g → S g
  sep : ¬ SI b ∧ ¬ SI bm
  lt : ∀ b, S b → b < w.heap.size
  wf : WF L nx
  len : L.length ≤ 1000

/-- .. wherever its parts lie. -/
def DT (w : World) (b : Nat) (L : List Chk) (nx : Int) (S : Nat → Prop) : Prop := ∃ bm bi sl SI, DP w b bm bi sl L nx S SI

namespace DP
variable {w u : World} {b bm bi : Nat} {sl : SlT} {L : List Chk} {nx : Int} {S SI S' : Nat → Prop}
theorem same (h : DP w b bm bi sl L nx S SI) (hs : ∀ g, S g → u.heap[g]? = w.heap[g]?) (hsz : w.heap.size ≤ u.heap.size) : DP u b bm bi sl L nx S SI := by
  obtain ⟨es, clk, hm, he⟩ := h.map
  obtain ⟨ids, hi, hb⟩ := h.index
  exact ⟨(hs b h.own.1).trans h.at_, ⟨es, clk, (hs bm h.own.2.1).trans hm, he⟩, ⟨ids, hi.same (fun g hg => hs g (h.own.2.2 g hg)) hsz, hb⟩, h.own, h.sep, fun g hg => Nat.lt_of_lt_of_le (h.lt g hg) hsz, h.wf, h.len⟩
theorem keep (h : DP w b bm bi sl L nx S SI) (hk : Keep S' w u) (hd : ∀ g, S g → ¬ S' g) : DP u b bm bi sl L nx S SI :=
  h.same (fun g hg => hk.block g (h.lt g hg) (hd g hg)) hk.size
theorem drew (h : DP w b bm bi sl L nx S SI) (hd : Drew w u) : DP u b bm bi sl L nx S SI := h.keep (Keep.drew NoB hd) fun _ _ h => h
theorem c0 (h : DP w b bm bi sl L nx S SI) : w.cell? ((⟨b, 0, none⟩ : Addr).add 0) = some (.map (some bm)) := cell_at h.at_ rfl
theorem c1 (h : DP w b bm bi sl L nx S SI) : w.cell? ((⟨b, 0, none⟩ : Addr).add 1) = some (.pointer (some ⟨bi, 0, none⟩)) := cell_at h.at_ rfl
theorem c2 (h : DP w b bm bi sl L nx S SI) : w.cell? ((⟨b, 0, none⟩ : Addr).add 2) = some (.int .u32 nx) := cell_at h.at_ rfl
/-- A look-up. -/
theorem look (h : DP w b bm bi sl L nx S SI) (id : Int) : ∃ es, mapAt w (some bm) es ∧ keysLike (.int .u32 id) es ∧ mfind (.int .u32 id) es = (getC L id).map valC := by
  obtain ⟨es, clk, hm, he⟩ := h.map
  exact ⟨es, ⟨_, clk, hm, rfl⟩, he.like id, he.find h.wf id⟩
end DP

/-- The value of a chunk that may not be there. -/
def oData (o : Option Chk) : ByteArray := match o with | some c => c.data | none => bs []
def oBlock (o : Option Chk) : Int := match o with | some c => c.block | none => 0
def oRefs (o : Option Chk) : Int := match o with | some c => c.refs | none => 0

section
variable {w : World} {b bm bi : Nat} {sl : SlT} {L : List Chk} {nx : Int} {S SI : Nat → Prop}

theorem c_is (h : DP w b bm bi sl L nx S SI) : Calls P F.«dedup_Table_is» ⟨[.pointer (some ⟨b, 0, none⟩)]⟩ w fun e w' => e = .returned (.bool true) ∧ w = w' := by
  refine ok_dedup_Table_is ?_
  unfold V_dedup_Table_is
  exact bcase_mk (fun _ => ⟨_, h.c0, rfl, rfl⟩) (fun hb => by cases hb)

theorem c_Next (h : DP w b bm bi sl L nx S SI) : Calls P F.«dedup_Table_Next» ⟨[.pointer (some ⟨b, 0, none⟩)]⟩ w fun e w' => e = .returned (.int .u32 nx) ∧ w = w' := by
  refine ok_dedup_Table_Next ((c_is h).mono ?_)
  rintro _ _ ⟨rfl, rfl⟩
  exact ⟨_, rfl, bcase_mk (fun hb => by cases hb) (fun _ => ⟨_, h.c2, rfl, rfl⟩)⟩

theorem c_find (h : DP w b bm bi sl L nx S SI) (id : Int) : Calls P F.«dedup_Table_find» ⟨[.pointer (some ⟨b, 0, none⟩), .int .u32 id]⟩ w fun e w' =>
    e = .returned (.tuple ⟨[.agg ⟨[.string (oData (getC L id)), .int .i64 (oBlock (getC L id)), .int .i64 (oRefs (getC L id))]⟩, .int .i64 (if (getC L id).isSome then 0 else 5)]⟩) ∧ Keep NoB w w' := by
  refine ok_dedup_Table_find ?_
  unfold V_dedup_Table_find
  refine alloc_step fun u0 hu0 => ?_
  have h0 := h.keep hu0.keep fun _ _ h => h
  refine (c_is h0).mono ?_
  rintro _ _ ⟨rfl, rfl⟩
  refine ⟨_, rfl, bcase_mk (fun hb => by cases hb) (fun _ => ⟨_, h0.c0, ?_⟩)⟩
  obtain ⟨es, hm, hl, hf⟩ := h0.look id
  refine ⟨es, hm, hl, oData (getC L id), oBlock (getC L id), oRefs (getC L id), (getC L id).isSome, ?_, ?_, ?_⟩
  · rw [hf]; cases getC L id <;> rfl
  · intro hb; cases hg : getC L id with
    | none => rfl
    | some c => rw [hg] at hb; cases hb
  · refine box3 fun u1 hu1 => ?_
    have e1 : u1.heap[w.heap.size]? = _ := hu1.keep.at_ hu0.at_ (fun h => h)
    have k1 : Keep NoB w u1 := hu0.keep.trans hu1.keep fun _ _ h => h
    refine bcase_mk (fun hb => ?_) (fun hb => ?_)
    · have hn : getC L id = none := by simpa using hb
      refine set3 e1 fun u2 hu2 => ⟨_, _, _, ⟨cell_at hu2.at_ rfl, cell_at hu2.at_ rfl, cell_at hu2.at_ rfl, trivial⟩, ?_, k1.trans hu2.keep fun g hg e => by have : g = w.heap.size := e; omega⟩
      rw [hn]; rfl
    · have hn : (getC L id).isSome = true := by simpa using hb
      refine ⟨_, _, _, ⟨cell_at hu1.at_ rfl, cell_at hu1.at_ rfl, cell_at hu1.at_ rfl, trivial⟩, set3 e1 fun u2 hu2 => ⟨_, _, _, ⟨cell_at hu2.at_ rfl, cell_at hu2.at_ rfl, cell_at hu2.at_ rfl, trivial⟩, ?_, k1.trans hu2.keep fun g hg e => by have : g = w.heap.size := e; omega⟩⟩
      rw [hn]; rfl

theorem c_Get (h : DP w b bm bi sl L nx S SI) (id : Int) : Calls P F.«dedup_Table_Get» ⟨[.pointer (some ⟨b, 0, none⟩), .int .u32 id]⟩ w fun e w' =>
    e = .returned (.tuple ⟨[.string (oData (getC L id)), .int .i64 (oBlock (getC L id)), .int .i64 (oRefs (getC L id)), .bool (getC L id).isSome]⟩) ∧ Keep NoB w w' := by
  refine ok_dedup_Table_Get ((c_find h id).mono ?_)
  rintro _ w1 ⟨rfl, k1⟩
  refine ⟨_, _, _, _, rfl, box3 fun u hu => ⟨_, cell_at hu.at_ rfl, _, cell_at hu.at_ rfl, _, cell_at hu.at_ rfl, fun w2 hd => ⟨?_, (k1.trans hu.keep fun _ _ h => h).trans (Keep.drew NoB hd) fun _ _ h => h⟩⟩⟩
  cases (getC L id).isSome <;> rfl

/-- Which chunk has these bytes. -/
def getD (L : List Chk) (d : ByteArray) : Option Chk := L.find? fun c => c.data.toList == d.toList
theorem bytes_eq {a b : ByteArray} (h : (a.toList == b.toList) = true) : a = b := (MapKept.bytes_beq a b).1 (by rw [beq_toListBytes]; exact h)
theorem size_zero {d : ByteArray} (e : d.size = 0) : d = bs [] := by
  obtain ⟨⟨l⟩⟩ := d
  have : l = [] := List.eq_nil_of_length_eq_zero e
  subst this; rfl

theorem getD_some {c : Chk} {d : ByteArray} (h : getD L d = some c) : c ∈ L ∧ c.data = d := ⟨List.mem_of_find?_eq_some h, bytes_eq (List.find?_some (p := fun c : Chk => c.data.toList == d.toList) h)⟩
theorem getD_none {d : ByteArray} (h : getD L d = none) : ∀ c ∈ L, c.data ≠ d := fun c hc e => by
  have := List.find?_eq_none.1 h c hc
  rw [e] at this; simp at this
theorem getD_mem (hw : WF L nx) {c : Chk} (hc : c ∈ L) : getD L c.data = some c := by
  cases hg : getD L c.data with
  | none => exact absurd rfl (getD_none hg c hc)
  | some d => obtain ⟨h1, h2⟩ := getD_some hg; rw [hw.data_inj h1 hc h2]

def oId (o : Option Chk) : Int := match o with | some c => c.id | none => 0

theorem c_Find (h : DP w b bm bi sl L nx S SI) (d : ByteArray) (hs : d.size ≤ 4294967296) : Calls P F.«dedup_Table_Find» ⟨[.pointer (some ⟨b, 0, none⟩), .string d]⟩ w fun e w' =>
    e = .returned (.tuple ⟨[.int .u32 (oId (getD L d)), .bool (getD L d).isSome]⟩) ∧ Keep NoB w w' := by
  refine ok_dedup_Table_Find ((c_is h).mono ?_)
  rintro _ _ ⟨rfl, rfl⟩
  obtain ⟨ids, hi, hb⟩ := h.index
  have hlen : ∀ k, k < 16 → (ids k).length ≤ 100000 := fun k hk => by
    have := (hb k hk).length_eq
    have h2 := List.length_filter_le (fun c : Chk => bucketN c.data == k) L
    have h3 := h.len
    simp only [List.length_map] at this; omega
  refine ⟨_, rfl, bcase_mk (fun hb => by cases hb) (fun _ => ⟨_, h.c1, (c_hashFind hi d hs hlen).mono ?_⟩)⟩
  rintro _ w1 ⟨a', c', rfl, hr, k1⟩
  have hk := bucketN_lt d
  have h1 := h.keep k1 fun _ _ h => h
  generalize hl : ids (bucketN d) = l at hr
  have hbl : l.Perm ((L.filter fun c => bucketN c.data == bucketN d).map (·.id)) := hl ▸ hb _ hk
  have hll := hr.len_le
  refine ⟨_, _, _, rfl, fun t w' => w1 = w' ∧ ∃ i : Nat, t.1 = i ∧ i ≤ l.length ∧ ∀ x ∈ l.take i, ∀ c ∈ L, c.id = x → c.data ≠ d, fun t _ => l.length - t.1.toNat, ⟨rfl, 0, rfl, by omega, by simp⟩, ?_⟩
  rintro _ _ _ ⟨rfl, i, rfl, hil, hn⟩
  refine bcase_mk (fun hbb => ?_) (fun hbb => ?_)
  · have hlt : i < l.length := by have := of_decide_eq_true hbb; omega
    have hx : l[i]? = some l[i] := List.getElem?_eq_getElem hlt
    obtain ⟨g, rfl, hc⟩ := hr.cell hx
    obtain ⟨es, hm, hlk, hf⟩ := h1.look l[i]
    obtain ⟨c, hcm, hcid⟩ : ∃ c ∈ L, c.id = l[i] := by
      have := hbl.mem_iff.1 (List.getElem_mem hlt)
      obtain ⟨c, hc1, hc2⟩ := List.mem_map.1 this
      exact ⟨c, (List.mem_filter.1 hc1).1, hc2⟩
    have hget : getC L l[i] = some c := by rw [← hcid]; exact getC_mem h.wf hcm
    refine ⟨⟨by omega, by omega⟩, _, hc, _, h1.c0, es, hm, hlk, c.data, c.block, c.refs, true, by rw [hf, hget]; rfl, (fun hb => by cases hb), bcase_mk (fun he => ?_) (fun he => ?_)⟩
    · have hd := bytes_eq he
      subst hd
      rw [getD_mem h.wf hcm]
      exact ⟨by rw [← hcid]; rfl, k1⟩
    · rw [wrap64 (by omega) (by omega)]
      refine ⟨⟨rfl, i + 1, by simp, by omega, fun x hx' c2 hc2 hid => ?_⟩, by show l.length - ((i : Int) + 1).toNat < l.length - (i : Int).toNat; omega⟩
      rw [List.take_add_one, hx] at hx'
      simp only [Option.toList_some, List.mem_append, List.mem_singleton] at hx'
      rcases hx' with hx' | rfl
      · exact hn x hx' c2 hc2 hid
      · have : c2 = c := h.wf.id_inj hc2 hcm (hid.trans hcid.symm)
        subst this
        intro e
        rw [e] at he; simp at he
  · have hge : i = l.length := by have := of_decide_eq_false hbb; omega
    subst hge
    have hnone : getD L d = none := by
      cases hg : getD L d with
      | none => rfl
      | some c =>
        obtain ⟨h1, h2⟩ := getD_some hg
        have : c.id ∈ l := hbl.mem_iff.2 (List.mem_map.2 ⟨c, List.mem_filter.2 ⟨h1, by simp [h2]⟩, rfl⟩)
        exact absurd h2 (hn c.id (by simpa using this) c h1 rfl)
    rw [hnone]
    exact ⟨rfl, k1⟩

/-- Why a chunk may not come. -/
def mayR (L : List Chk) (d : ByteArray) : Int := if d.size = 0 then 4 else if (d.size : Int) > 64 then 4 else if (getD L d).isSome then 6 else 0

theorem c_may (h : DP w b bm bi sl L nx S SI) (d : ByteArray) (hs : d.size ≤ 4294967296) : Calls P F.«dedup_Table_may» ⟨[.pointer (some ⟨b, 0, none⟩), .string d]⟩ w fun e w' => e = .returned (.int .i64 (mayR L d)) ∧ Keep NoB w w' := by
  refine ok_dedup_Table_may ?_
  unfold V_dedup_Table_may
  refine bcase_mk (fun h1 => ?_) (fun h1 => bcase_mk (fun h2 => ?_) (fun h2 => (c_Find h d hs).mono ?_))
  · have : d.size = 0 := by rw [bytes_eq h1]; rfl
    exact ⟨by rw [mayR, if_pos this], Keep.refl _ _⟩
  all_goals (have h1 : ¬ d.size = 0 := (fun e => by rw [size_zero e] at h1; simp at h1))
  · exact ⟨by rw [mayR, if_neg h1, if_pos (of_decide_eq_true h2)], Keep.refl _ _⟩
  · have h2 := of_decide_eq_false h2
    rintro _ w1 ⟨rfl, k1⟩
    refine ⟨_, _, rfl, bcase_mk (fun h3 => ?_) (fun h3 => ?_)⟩
    · exact ⟨by rw [mayR, if_neg h1, if_neg h2, if_pos h3], k1⟩
    · exact ⟨by rw [mayR, if_neg h1, if_neg h2, if_neg (by rw [h3]; simp)], k1⟩
end

end Go.Proofs.YtgepmlgkeljelaaGreat.Vc
