/- Package dedup: put, Add, Load, Skip, New. -/
import Derived.Test.YtgepmlgkeljelaaGreatDdTab
namespace Go.Proofs.YtgepmlgkeljelaaGreat.Vc
open Go Go.Proofs

/-! ### A chunk more -/
theorem insC_perm (x : Chk) : ∀ L : List Chk, (insC x L).Perm (x :: L)
  | [] => List.Perm.refl _
  | c :: L => by
    unfold insC
    split
    · exact ((insC_perm x L).cons c).trans (List.Perm.swap x c L)
    · exact List.Perm.refl _
theorem insC_sorted (x : Chk) : ∀ L : List Chk, L.Pairwise (fun a b => a.id < b.id) → (∀ c ∈ L, c.id ≠ x.id) → (insC x L).Pairwise fun a b => a.id < b.id
  | [], _, _ => by simp [insC]
  | c :: L, h, hn => by
    obtain ⟨h1, h2⟩ := List.pairwise_cons.1 h
    unfold insC
    split
    · rename_i hlt
      refine List.pairwise_cons.2 ⟨fun d hd => ?_, insC_sorted x L h2 fun d hd => hn d (by simp [hd])⟩
      rcases List.mem_cons.1 ((insC_perm x L).mem_iff.1 hd) with rfl | hd
      · exact hlt
      · exact h1 d hd
    · rename_i hge
      have hc := hn c (by simp)
      refine List.pairwise_cons.2 ⟨fun d hd => ?_, h⟩
      rcases List.mem_cons.1 hd with rfl | hd
      · omega
      · have := h1 d hd; omega

theorem WF.ins {L : List Chk} {nx : Int} (h : WF L nx) {x : Chk} (hid : ∀ c ∈ L, c.id ≠ x.id) (hd : ∀ c ∈ L, c.data ≠ x.data) (hx : 1 ≤ x.id ∧ x.id < 4294967295) (hs : 1 ≤ x.data.size ∧ x.data.size ≤ 64) (hr : 1 ≤ x.refs ∧ x.refs ≤ 65535) :
    WF (insC x L) (if x.id ≥ nx then x.id + 1 else nx) := by
  have hp := insC_perm x L
  have hnx := h.nx
  refine ⟨insC_sorted x L h.sorted hid, ?_, fun c hc => ?_, by split <;> omega⟩
  · refine (List.Perm.pairwise_iff (fun h e => h e.symm) hp).2 (List.pairwise_cons.2 ⟨fun c hc e => hd c hc e.symm, h.data⟩)
  · rcases List.mem_cons.1 (hp.mem_iff.1 hc) with rfl | hc
    · exact ⟨⟨hx.1, by split <;> omega⟩, hs, hr⟩
    · obtain ⟨h1, h2⟩ := h.rng c hc
      exact ⟨⟨h1.1, by split <;> omega⟩, h2⟩

/-- The table behind a call. -/
def DPost (w : World) (b : Nat) (S : Nat → Prop) (L : List Chk) (nx : Int) (w' : World) : Prop := Keep S w w' ∧ DT w' b L nx (Ext S w w')

section
variable {w : World} {b bm bi : Nat} {sl : SlT} {L : List Chk} {nx : Int} {S SI : Nat → Prop}

theorem DP.ext {w' : World} (h : DP w' b bm bi sl L nx S SI) : DT w' b L nx (Ext S w w') :=
  ⟨bm, bi, sl, SI, h.at_, h.map, h.index, ⟨.inl h.own.1, .inl h.own.2.1, fun g hg => .inl (h.own.2.2 g hg)⟩, h.sep, fun g hg => hg.elim (h.lt g) (·.2), h.wf, h.len⟩
theorem DPost.same {w' : World} (h : DP w b bm bi sl L nx S SI) (hk : Keep NoB w w') : DPost w b S L nx w' :=
  ⟨hk.mono fun _ _ h => h.elim, (h.keep hk fun _ _ h => h).ext⟩
theorem DT.mono {w' : World} {S' : Nat → Prop} (h : DT w' b L nx S) (hs : ∀ g, S g → S' g) (hl : ∀ g, S' g → g < w'.heap.size) : DT w' b L nx S' := by
  obtain ⟨bm, bi, sl, SI, h⟩ := h
  exact ⟨bm, bi, sl, SI, h.at_, h.map, h.index, ⟨hs _ h.own.1, hs _ h.own.2.1, fun g hg => hs _ (h.own.2.2 g hg)⟩, h.sep, hl, h.wf, h.len⟩
theorem DPost.from {w0 w' : World} (hk : Keep NoB w w0) (h : DPost w0 b S L nx w') (hS : ∀ g, S g → g < w.heap.size) : DPost w b S L nx w' := by
  obtain ⟨h1, h2⟩ := h
  refine ⟨(hk.mono fun _ _ h => h.elim).trans h1 fun _ _ h => h, h2.mono (fun g hg => Ext.of_new hk.size hg) fun g hg => ?_⟩
  rcases hg with hg | hg
  · have := hS g hg; have := hk.size; have := h1.size; omega
  · exact hg.2

theorem mapOk : P.underlying T.«m_u32_dedup_chunk» = some (.map T.«u32» T.«dedup_chunk») := Tryz.underlying164

theorem c_put (h : DP w b bm bi sl L nx S SI) (x : Chk) (hid : ∀ c ∈ L, c.id ≠ x.id) (hd : ∀ c ∈ L, c.data ≠ x.data) (hx : 1 ≤ x.id ∧ x.id < 4294967295) (hs : 1 ≤ x.data.size ∧ x.data.size ≤ 64) (hr : 1 ≤ x.refs ∧ x.refs ≤ 65535) (hlen : L.length < 1000) :
    Calls P F.«dedup_Table_put» ⟨[.pointer (some ⟨b, 0, none⟩), .int .u32 x.id, valC x]⟩ w fun e w' => e = .returned (.tuple ⟨[]⟩) ∧ DPost w b S (insC x L) (if x.id ≥ nx then x.id + 1 else nx) w' := by
  refine ok_dedup_Table_put ?_
  unfold V_dedup_Table_put
  refine alloc_step fun u0 hu0 => ?_
  have h0 := h.keep hu0.keep fun _ _ h => h
  refine ⟨_, h0.c0, _, _, _, ⟨cell_at hu0.at_ rfl, cell_at hu0.at_ rfl, cell_at hu0.at_ rfl, trivial⟩, fun w1 hd1 => ?_⟩
  have h1 := h0.drew hd1
  have k1 : Keep NoB w w1 := hu0.keep.trans (Keep.drew NoB hd1) fun _ _ h => h
  have e1 : w1.heap[w.heap.size]? = _ := hd1.at_ hu0.at_
  obtain ⟨es, clk, hm, he⟩ := h1.map
  have hnone : getC L x.id = none := by
    cases hg : getC L x.id with
    | none => rfl
    | some c => obtain ⟨h1, h2⟩ := getC_some hg; exact absurd h2 (hid c h1)
  obtain ⟨w2, r2, s2⟩ := mapUpdate_new (P := P) (v := valC x) mapOk Tryz.underlying48 (k := .int .u32 x.id) rfl hm (he.like x.id) (by rw [he.find h.wf, hnone]; rfl)
  have hbm : ¬ b = bm := fun e => by
    have := h1.at_; rw [e, hm] at this; cases this
  have hblt := h.lt b h.own.1
  have hbmlt := h.lt bm h.own.2.1
  have e2 : w2.heap[b]? = _ := s2.keep.at_ h1.at_ hbm
  have x2 : w2.heap[w.heap.size]? = _ := s2.keep.at_ e1 (by show ¬ w.heap.size = bm; omega)
  obtain ⟨ids, hi, hb⟩ := h1.index
  have i2 : HI w2 bi sl ids SI := hi.keep s2.keep fun g hg e => h.sep.2 (show SI bm from (show g = bm from e) ▸ hg)
  refine ⟨_, r2, _, cell_at e2 rfl, _, cell_at x2 rfl, fun w3 hd3 => ?_⟩
  have i3 := i2.drew hd3
  have hlen' : ∀ k, k < 16 → (ids k).length ≤ 100000 := fun k hk => by
    have := (hb k hk).length_eq
    have h2 := List.length_filter_le (fun c : Chk => bucketN c.data == k) L
    simp only [List.length_map] at this; omega
  have hnot : x.id ∉ ids (bucketN x.data) := fun hm => by
    obtain ⟨c, hc, hcid⟩ := List.mem_map.1 ((hb _ (bucketN_lt _)).mem_iff.1 hm)
    exact hid c (List.mem_filter.1 hc).1 hcid
  refine (c_hashAdd i3 x.data x.id (by omega) hlen' hnot).mono ?_
  rintro _ w4 ⟨rfl, k4, sl', i4⟩
  have z3 : w3.heap.size = w.heap.size + 1 := by rw [hd3.size, s2.size, hd1.size, hu0.size]
  have e4 : w4.heap[b]? = _ := k4.at_ (hd3.at_ e2) h.sep.1
  have m4 : w4.heap[bm]? = _ := k4.at_ (hd3.at_ s2.at_) h.sep.2
  refine ⟨_, rfl, _, cell_at e4 rfl, ?_⟩
  have eadr : ((⟨b, 0, none⟩ : Addr).add 2).add 0 = (⟨b, 0, none⟩ : Addr).add 2 := by simp [add_mk]
  have hv : (if IntKind.wrap .u32 (x.id + 1) > nx then IntKind.wrap .u32 (x.id + 1) else nx) = (if x.id ≥ nx then x.id + 1 else nx) := by
    rw [wrapU32 (by omega) (by omega)]
    by_cases hc : x.id ≥ nx
    · rw [if_pos hc, if_pos (by omega)]
    · rw [if_neg hc, if_neg (by omega)]
  show (∃ old, w4.cell? (((⟨b, 0, none⟩ : Addr).add 2).add 0) = some old) ∧ _
  rw [eadr, hv]
  refine store_step e4 (by simp) fun w5 hu5 => ⟨rfl, ?_, bm, bi, sl', Ext SI w3 w4, ?_⟩
  · refine ((((k1.mono fun _ _ h => h.elim).trans s2.keep fun g _ hg => ?_).trans (Keep.drew S hd3) fun _ _ h => h).trans k4 fun g _ hg => h.own.2.2 g hg).trans hu5.keep fun g _ hg => ?_
    · rw [show g = bm from hg]; exact h.own.2.1
    · rw [show g = b from hg]; exact h.own.1
  · have z4 := k4.size
    have hSI : ∀ g, SI g → g < w.heap.size := fun g hg => h.lt g (h.own.2.2 g hg)
    refine ⟨hu5.at_, ⟨es ++ [{ key := .int .u32 x.id, val := valC x, born := clk }], clk + 1, hu5.keep.at_ m4 (fun e => hbm (show b = bm from (show bm = b from e).symm)), ?_, ?_, ?_⟩, ⟨_, i4.keep hu5.keep fun g hg e => ?_, fun k hk => ?_⟩, ⟨.inl h.own.1, .inl h.own.2.1, fun g hg => ?_⟩, ⟨fun hg => ?_, fun hg => ?_⟩, fun g hg => ?_, h.wf.ins hid hd hx hs hr, by rw [insC_length]; omega⟩
    · rw [List.map_append]
      exact (he.perm.append_right _).trans (List.perm_append_comm.trans ((insC_perm x L).map kvC).symm)
    · rw [List.map_append]
      refine List.nodup_append.2 ⟨he.born.1, by simp, fun y hy z hz e => ?_⟩
      obtain ⟨d, hd, rfl⟩ := List.mem_map.1 hy
      have := he.born.2 d hd
      simp at hz; omega
    · intro d hd
      rcases List.mem_append.1 hd with hd | hd
      · have := he.born.2 d hd; omega
      · simp at hd; subst hd; exact Nat.lt_succ_self _
    · have : g = b := e
      subst this
      rcases hg with hg | hg
      · exact h.sep.1 hg
      · omega
    · have hp := (((insC_perm x L).filter fun c => bucketN c.data == k).map (·.id)).symm
      by_cases hkk : k = bucketN x.data
      · subst hkk
        rw [updN_same]
        refine List.Perm.trans ?_ hp
        rw [List.filter_cons, if_pos (by simp)]
        exact List.perm_append_comm.trans ((hb _ hk).cons x.id)
      · rw [updN_other hkk]
        refine List.Perm.trans ?_ hp
        rw [List.filter_cons, if_neg (by simp; exact fun e => hkk e.symm)]
        exact hb k hk
    · rcases hg with hg | hg
      · exact .inl (h.own.2.2 g hg)
      · exact .inr ⟨by omega, by rw [hu5.size]; exact hg.2⟩
    · rcases hg with hg | hg
      · exact h.sep.1 hg
      · omega
    · rcases hg with hg | hg
      · exact h.sep.2 hg
      · omega
    · rcases hg with hg | hg
      · have := h.lt g hg; rw [hu5.size]; omega
      · exact hg.2

theorem getD_isSome_iff {d : ByteArray} : (getD L d).isSome = true ↔ findI L d ≥ 0 := by
  constructor
  · intro h
    cases hg : getD L d with
    | none => rw [hg] at h; cases h
    | some c =>
      obtain ⟨h1, h2⟩ := getD_some hg
      unfold findI
      split
      · omega
      · rename_i hn
        have := List.findIdx?_eq_none_iff.1 hn c h1
        rw [h2] at this; simp at this
  · intro h
    obtain ⟨i, x, _, hx, hd⟩ := findI_some (L := L) (d := d) (by omega)
    cases hg : getD L d with
    | some c => rfl
    | none => exact absurd (bytes_eq hd) (getD_none hg x (List.mem_of_getElem? hx))

theorem getC_at {id : Int} : (getC L id = none ∧ atI L id < 0) ∨ ∃ c i, getC L id = some c ∧ atI L id = (i : Nat) ∧ L[i]? = some c := by
  by_cases h : atI L id < 0
  · left
    refine ⟨List.find?_eq_none.2 fun c hc => ?_, h⟩
    have := List.findIdx?_eq_none_iff.1 (atI_none L id h) c hc
    simpa using this
  · right
    have h0 := h
    unfold atI at h
    split at h
    · rename_i i hi
      obtain ⟨h1, h2, h3⟩ := List.findIdx?_eq_some_iff_getElem.1 hi
      refine ⟨L[i], i, ?_, by unfold atI; rw [hi], List.getElem?_eq_getElem h1⟩
      unfold getC
      rw [List.find?_eq_some_iff_getElem]
      exact ⟨h2, i, h1, rfl, fun j hj => by have := h3 j hj; simpa using this⟩
    · omega

theorem mayR_eq (d : ByteArray) : mayR L d = if (d.size : Int) < 1 then 4 else if (d.size : Int) > 64 then 4 else if findI L d ≥ 0 then 6 else 0 := by
  unfold mayR
  by_cases h1 : d.size = 0
  · rw [if_pos h1, if_pos (show (d.size : Int) < 1 by omega)]
  · rw [if_neg h1, if_neg (show ¬ (d.size : Int) < 1 by omega)]
    by_cases h2 : (d.size : Int) > 64
    · rw [if_pos h2, if_pos h2]
    · rw [if_neg h2, if_neg h2]
      by_cases h3 : findI L d ≥ 0
      · rw [if_pos (getD_isSome_iff.2 h3), if_pos h3]
      · rw [if_neg (fun h => h3 (getD_isSome_iff.1 h)), if_neg h3]

theorem no_data {d : ByteArray} (h : ¬ findI L d ≥ 0) : ∀ c ∈ L, c.data ≠ d := by
  cases hg : getD L d with
  | none => exact getD_none hg
  | some c => exact absurd (getD_isSome_iff.1 (by rw [hg]; rfl)) h

theorem c_Add (h : DP w b bm bi sl L nx S SI) (d : ByteArray) (blk : Int) (hs : d.size ≤ 4294967296) (hlen : L.length < 1000) :
    Calls P F.«dedup_Table_Add» ⟨[.pointer (some ⟨b, 0, none⟩), .string d, .int .i64 blk]⟩ w fun e w' => e = .returned (.tuple ⟨[.int .u32 (addR L nx d blk).1.1, .int .i64 (addR L nx d blk).1.2]⟩) ∧
      DPost w b S (addR L nx d blk).2.1 (addR L nx d blk).2.2 w' := by
  refine ok_dedup_Table_Add ((c_is h).mono ?_)
  rintro _ _ ⟨rfl, rfl⟩
  refine ⟨_, rfl, bcase_mk (fun hb => by cases hb) (fun _ => (c_may h d hs).mono ?_)⟩
  rintro _ w1 ⟨rfl, k1⟩
  have hsame : DPost w b S L nx w1 := DPost.same h k1
  have h1 := h.keep k1 fun _ _ h => h
  refine ⟨_, rfl, bcase_mk (fun hb => ?_) (fun hb => ⟨_, h1.c2, bcase_mk (fun h4 => ?_) (fun h4 => ⟨_, h1.c2, ?_⟩)⟩)⟩
  · have hb : mayR L d ≠ 0 := by simpa using hb
    by_cases g1 : (d.size : Int) < 1
    · simp only [addR, mayR_eq, if_pos g1]; exact ⟨by first | exact rfl | exact trivial, hsame⟩
    by_cases g2 : (d.size : Int) > 64
    · simp only [addR, mayR_eq, if_neg g1, if_pos g2]; exact ⟨by first | exact rfl | exact trivial, hsame⟩
    by_cases g3 : findI L d ≥ 0
    · simp only [addR, mayR_eq, if_neg g1, if_neg g2, if_pos g3]; exact ⟨by first | exact rfl | exact trivial, hsame⟩
    · rw [mayR_eq, if_neg g1, if_neg g2, if_neg g3] at hb
      exact absurd rfl hb
  all_goals
    have hb : mayR L d = 0 := by simpa using hb
    rw [mayR_eq] at hb
    have g1 : ¬ (d.size : Int) < 1 := fun g => by rw [if_pos g] at hb; cases hb
    rw [if_neg g1] at hb
    have g2 : ¬ (d.size : Int) > 64 := fun g => by rw [if_pos g] at hb; cases hb
    rw [if_neg g2] at hb
    have g3 : ¬ findI L d ≥ 0 := fun g => by rw [if_pos g] at hb; cases hb
  · have h4 : nx = 4294967295 := by simpa using h4
    simp only [addR, if_neg g1, if_neg g2, if_neg g3, if_pos h4]
    exact ⟨by first | exact rfl | exact trivial, hsame⟩
  · have h4 : ¬ nx = 4294967295 := by simpa using h4
    have hnx := h.wf.nx
    refine (c_put h1 ⟨nx, d, blk, 1⟩ (fun c hc e => by have := (h.wf.rng c hc).1.2; have : c.id = nx := e; omega) (no_data g3) ⟨hnx.1, by show nx < _; omega⟩ ⟨by show 1 ≤ d.size; omega, by show d.size ≤ 64; omega⟩ ⟨by show (1 : Int) ≤ 1; decide, by show (1 : Int) ≤ 65535; decide⟩ hlen).mono ?_
    rintro _ w2 ⟨rfl, h2⟩
    refine ⟨rfl, ?_⟩
    simp only [addR, if_neg g1, if_neg g2, if_neg g3, if_neg h4]
    refine ⟨by first | exact rfl | exact trivial, ?_⟩
    have := DPost.from k1 h2 h.lt
    rw [if_pos (show (⟨nx, d, blk, 1⟩ : Chk).id ≥ nx from Int.le_refl nx)] at this
    exact this

theorem c_Skip (h : DP w b bm bi sl L nx S SI) (n : Int) (hn : 0 ≤ n ∧ n ≤ 4294967295) : Calls P F.«dedup_Table_Skip» ⟨[.pointer (some ⟨b, 0, none⟩), .int .u32 n]⟩ w fun e w' => e = .returned (.tuple ⟨[]⟩) ∧ DPost w b S L (if n > nx then n else nx) w' := by
  refine ok_dedup_Table_Skip ((c_is h).mono ?_)
  rintro _ _ ⟨rfl, rfl⟩
  refine ⟨_, rfl, bcase_mk (fun _ => ⟨_, h.c2, ?_⟩) (fun hb => by cases hb)⟩
  have eadr : ((⟨b, 0, none⟩ : Addr).add 2).add 0 = (⟨b, 0, none⟩ : Addr).add 2 := by simp [add_mk]
  show (∃ old, w.cell? (((⟨b, 0, none⟩ : Addr).add 2).add 0) = some old) ∧ _
  rw [eadr]
  refine store_step h.at_ (by simp) fun u hu => ⟨rfl, hu.keep.mono fun g _ hg => by rw [show g = b from hg]; exact h.own.1, ?_⟩
  obtain ⟨es, clk, hm, he⟩ := h.map
  obtain ⟨ids, hi, hb⟩ := h.index
  have hbm : ¬ bm = b := fun e => by
    have := h.at_; rw [← e, hm] at this; cases this
  have hnx := h.wf.nx
  have : DP u b bm bi sl L (if n > nx then n else nx) S SI :=
    ⟨hu.at_, ⟨es, clk, hu.keep.at_ hm hbm, he⟩, ⟨ids, hi.keep hu.keep fun g hg e => h.sep.1 (show SI b from (show g = b from e) ▸ hg), hb⟩, h.own, h.sep, fun g hg => by rw [hu.size]; exact h.lt g hg,
      ⟨h.wf.sorted, h.wf.data, fun c hc => ⟨⟨(h.wf.rng c hc).1.1, by have := (h.wf.rng c hc).1.2; split <;> omega⟩, (h.wf.rng c hc).2⟩, by split <;> omega⟩, h.len⟩
  exact this.ext

theorem c_New (w : World) : Calls P F.«dedup_New» ⟨[]⟩ w fun e w' => ∃ b, e = .returned (.pointer (some ⟨b, 0, none⟩)) ∧ Keep NoB w w' ∧ w.heap.size ≤ b ∧ DT w' b [] 1 (Ext NoB w w') := by
  refine ok_dedup_New ?_
  unfold V_dedup_New
  refine alloc_step fun u0 hu0 => (c_hashNew u0).mono ?_
  rintro _ w1 ⟨rfl, k1, z1, h1⟩
  refine ⟨_, rfl, alloc_step fun u2 hu2 => ⟨w1.heap.size, rfl, (hu0.keep.trans k1 fun _ _ h => h).trans hu2.keep fun _ _ h => h, ?_, w.heap.size, u0.heap.size, (fun _ => (none, 0)), Ext NoB u0 w1, ?_⟩⟩
  · rw [z1, hu0.size]; omega
  · have z0 := hu0.size
    have z2 := hu2.size
    refine ⟨hu2.at_, ⟨[], 0, hu2.keep.at_ (k1.at_ hu0.at_ id) id, ⟨by simp, by simp⟩⟩, ⟨_, h1.keep hu2.keep fun _ _ h => h, fun k _ => by simp⟩, ⟨.inr ⟨by omega, by omega⟩, .inr ⟨by omega, by omega⟩, fun g hg => ?_⟩, ⟨fun hg => ?_, fun hg => ?_⟩, fun g hg => ?_, ⟨by simp, by simp, by simp, by decide⟩, by simp⟩
    · rcases hg with hg | hg
      · exact hg.elim
      · exact .inr ⟨by omega, by omega⟩
    · rcases hg with hg | hg
      · exact hg
      · omega
    · rcases hg with hg | hg
      · exact hg
      · omega
    · rcases hg with hg | hg
      · exact hg.elim
      · exact hg.2
end

end Go.Proofs.YtgepmlgkeljelaaGreat.Vc
