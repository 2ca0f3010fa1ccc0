/- Package dedup: Load, Hold, Release. -/
import Derived.Test.YtgepmlgkeljelaaGreatDdPut
namespace Go.Proofs.YtgepmlgkeljelaaGreat.Vc
open Go Go.Proofs

theorem split_nth {L : List Chk} {i : Nat} {c : Chk} (h : L[i]? = some c) : ∃ p q, L = p ++ c :: q ∧ p.length = i := by
  obtain ⟨hlt, rfl⟩ := List.getElem?_eq_some_iff.1 h
  exact ⟨L.take i, L.drop (i + 1), by rw [← List.drop_eq_getElem_cons hlt, List.take_append_drop], by rw [List.length_take]; omega⟩

section
variable {w : World} {b bm bi : Nat} {sl : SlT} {L : List Chk} {nx : Int} {S SI : Nat → Prop}

theorem c_Load (h : DP w b bm bi sl L nx S SI) (x : Chk) (hs : x.data.size ≤ 4294967296) (hid : 0 ≤ x.id ∧ x.id ≤ 4294967295) (hlen : L.length < 1000) :
    Calls P F.«dedup_Table_Load» ⟨[.pointer (some ⟨b, 0, none⟩), .int .u32 x.id, .string x.data, .int .i64 x.block, .int .i64 x.refs]⟩ w fun e w' => e = .returned (.int .i64 (loadR L nx x).1) ∧ DPost w b S (loadR L nx x).2.1 (loadR L nx x).2.2 w' := by
  refine ok_dedup_Table_Load ((c_is h).mono ?_)
  rintro _ _ ⟨rfl, rfl⟩
  have hsame0 : DPost w b S L nx w := DPost.same h (Keep.refl _ _)
  refine ⟨_, rfl, bcase_mk (fun hb => by cases hb) (fun _ => bcase_mk (fun h1 => ?_) (fun h1 => bcase_mk (fun h2 => ?_) (fun h2 => (c_may h x.data hs).mono ?_)))⟩
  · have h1 : x.id = 0 := by simpa using h1
    simp only [loadR, if_pos h1]; exact ⟨by first | exact rfl | exact trivial, hsame0⟩
  · have h1 : ¬ x.id = 0 := by simpa using h1
    have h2 : x.id = 4294967295 := by simpa using h2
    simp only [loadR, if_neg h1, if_pos h2]; exact ⟨by first | exact rfl | exact trivial, hsame0⟩
  · have h1 : ¬ x.id = 0 := by simpa using h1
    have h2 : ¬ x.id = 4294967295 := by simpa using h2
    rintro _ w1 ⟨rfl, k1⟩
    have p1 := h.keep k1 fun _ _ h => h
    obtain ⟨es, hm, hl, hf⟩ := p1.look x.id
    refine ⟨_, rfl, _, p1.c0, es, hm, hl, oData (getC L x.id), oBlock (getC L x.id), oRefs (getC L x.id), (getC L x.id).isSome, by rw [hf]; cases getC L x.id <;> rfl, (fun hb => by
      cases hg : getC L x.id with
      | none => rfl
      | some c => rw [hg] at hb; cases hb), box3 fun u hu => ?_⟩
    have k2 : Keep NoB w u := k1.trans hu.keep fun _ _ h => h
    have hsame : DPost w b S L nx u := DPost.same h k2
    have p2 := h.keep k2 fun _ _ h => h
    refine ⟨fun t w' => u = w' ∧ t.1 = (decide (mayR L x.data = 4) || (decide (x.refs < 1) || decide (x.refs > 65535))), bcase_mk (fun hb => ?_) (fun hb => bcase_mk (fun hc => ?_) (fun hc => ?_)), ?_⟩
    · have hb : mayR L x.data = 4 := by simpa using hb
      exact ⟨rfl, by simp [hb]⟩
    · exact ⟨rfl, by show true = _; rw [hc]; simp⟩
    · have hb : ¬ mayR L x.data = 4 := by simpa using hb
      exact ⟨rfl, by show decide (x.refs > 65535) = _; rw [hc]; simp [hb]⟩
    · rintro _ _ _ ⟨rfl, rfl⟩
      refine bcase_mk (fun hb => ?_) (fun hb => ?_)
      · -- the form is wrong
        by_cases g3 : (x.data.size : Int) < 1
        · simp only [loadR, if_neg h1, if_neg h2, if_pos g3]; exact ⟨by first | exact rfl | exact trivial, hsame⟩
        by_cases g4 : (x.data.size : Int) > 64
        · simp only [loadR, if_neg h1, if_neg h2, if_neg g3, if_pos g4]; exact ⟨by first | exact rfl | exact trivial, hsame⟩
        by_cases g5 : x.refs < 1
        · simp only [loadR, if_neg h1, if_neg h2, if_neg g3, if_neg g4, if_pos g5]; exact ⟨by first | exact rfl | exact trivial, hsame⟩
        by_cases g6 : x.refs > 65535
        · simp only [loadR, if_neg h1, if_neg h2, if_neg g3, if_neg g4, if_neg g5, if_pos g6]; exact ⟨by first | exact rfl | exact trivial, hsame⟩
        · exfalso
          have hm4 : ¬ mayR L x.data = 4 := by
            rw [mayR_eq, if_neg g3, if_neg g4]
            split <;> decide
          simp [hm4, g5, g6] at hb
      · have g5 : ¬ x.refs < 1 := fun g => by simp [g] at hb
        have g6 : ¬ x.refs > 65535 := fun g => by simp [g] at hb
        have hm4 : ¬ mayR L x.data = 4 := fun g => by simp [g] at hb
        have g3 : ¬ (x.data.size : Int) < 1 := fun g => hm4 (by rw [mayR_eq, if_pos g])
        have g4 : ¬ (x.data.size : Int) > 64 := fun g => hm4 (by rw [mayR_eq, if_neg g3, if_pos g])
        have hat : (getC L x.id).isSome = true ↔ atI L x.id ≥ 0 := by
          rcases getC_at (L := L) (id := x.id) with ⟨g, g'⟩ | ⟨c, i, g, g', _⟩
          · rw [g]; simp; omega
          · rw [g, g']; simp
        refine bcase_mk (fun h7 => ?_) (fun h7 => bcase_mk (fun h8 => ?_) (fun h8 => ?_))
        · have h7 : mayR L x.data ≠ 0 := by simpa using h7
          have g8 : findI L x.data ≥ 0 := by
            by_cases g : findI L x.data ≥ 0
            · exact g
            · rw [mayR_eq, if_neg g3, if_neg g4, if_neg g] at h7; exact absurd rfl h7
          by_cases g7 : atI L x.id ≥ 0
          · simp only [loadR, if_neg h1, if_neg h2, if_neg g3, if_neg g4, if_neg g5, if_neg g6, if_pos g7]; exact ⟨by first | exact rfl | exact trivial, hsame⟩
          · simp only [loadR, if_neg h1, if_neg h2, if_neg g3, if_neg g4, if_neg g5, if_neg g6, if_neg g7, if_pos g8]; exact ⟨by first | exact rfl | exact trivial, hsame⟩
        · have g7 := hat.1 h8
          simp only [loadR, if_neg h1, if_neg h2, if_neg g3, if_neg g4, if_neg g5, if_neg g6, if_pos g7]; exact ⟨by first | exact rfl | exact trivial, hsame⟩
        · have h7 : mayR L x.data = 0 := by simpa using h7
          have g8 : ¬ findI L x.data ≥ 0 := fun g => by rw [mayR_eq, if_neg g3, if_neg g4, if_pos g] at h7; cases h7
          have g7 : ¬ atI L x.id ≥ 0 := fun g => by rw [hat.2 g] at h8; cases h8
          have hno : ∀ c ∈ L, c.id ≠ x.id := by
            rcases getC_at (L := L) (id := x.id) with ⟨g, _⟩ | ⟨c, i, g, g', _⟩
            · exact getC_none g
            · omega
          refine (c_put p2 x hno (no_data g8) ⟨by omega, by omega⟩ ⟨by omega, by omega⟩ ⟨by omega, by omega⟩ hlen).mono ?_
          rintro _ w3 ⟨rfl, h3⟩
          refine ⟨rfl, ?_⟩
          simp only [loadR, if_neg h1, if_neg h2, if_neg g3, if_neg g4, if_neg g5, if_neg g6, if_neg g7, if_neg g8]
          exact ⟨by first | exact rfl | exact trivial, DPost.from k2 h3 h.lt⟩

/-! ### Another count -/
theorem WF.with {p q : List Chk} {c : Chk} (h : WF (p ++ c :: q) nx) {n : Int} (hn : 1 ≤ n ∧ n ≤ 65535) : WF (p ++ c.with n :: q) nx := by
  have e1 : (p ++ c.with n :: q).map (·.id) = (p ++ c :: q).map (·.id) := by simp [Chk.with]
  have e2 : (p ++ c.with n :: q).map (·.data) = (p ++ c :: q).map (·.data) := by simp [Chk.with]
  refine ⟨?_, ?_, fun d hd => ?_, h.nx⟩
  · exact (List.pairwise_map (f := fun c : Chk => c.id) (R := (· < ·))).1 (by rw [e1]; exact List.pairwise_map.2 h.sorted)
  · exact (List.pairwise_map (f := fun c : Chk => c.data) (R := (· ≠ ·))).1 (by rw [e2]; exact List.pairwise_map.2 h.data)
  · rcases List.mem_append.1 hd with hd | hd
    · exact h.rng d (by simp [hd])
    · rcases List.mem_cons.1 hd with rfl | hd
      · obtain ⟨h1, h2, _⟩ := h.rng c (by simp)
        exact ⟨h1, h2, hn⟩
      · exact h.rng d (by simp [hd])
theorem WF.drop {p q : List Chk} {c : Chk} (h : WF (p ++ c :: q) nx) : WF (p ++ q) nx := by
  have hs : (p ++ q).Sublist (p ++ c :: q) := (List.Sublist.refl p).append (List.sublist_cons_self c q)
  exact ⟨h.sorted.sublist hs, h.data.sublist hs, fun d hd => h.rng d (hs.mem hd), h.nx⟩

/-- The entry of a chunk that is there. -/
theorem Ents.split {es : List MapEntry} {clk : Nat} {p q : List Chk} {c : Chk} (h : Ents es clk (p ++ c :: q)) (hw : WF (p ++ c :: q) nx) :
    ∃ a e b', es = a ++ e :: b' ∧ keyEq (.int .u32 c.id) e.key = true ∧ (∀ x ∈ a, keyEq (.int .u32 c.id) x.key = false) ∧ e.key = .int .u32 c.id ∧ ((a ++ b').map kvE).Perm ((p ++ q).map kvC) := by
  have hf := h.find hw c.id
  rw [getC_mem hw (by simp)] at hf
  obtain ⟨a, e, b', rfl, hk, hv, ha⟩ := mfind_some hf
  have hkey : e.key = .int .u32 c.id := (keyEq_eq hk).symm
  refine ⟨a, e, b', rfl, hk, ha, hkey, ?_⟩
  have hp := h.perm
  rw [List.map_append, List.map_cons, List.map_append, List.map_cons] at hp
  have h1 : kvE e = kvC c := by rw [kvE, kvC, hkey, hv]
  rw [h1] at hp
  have := (List.perm_middle.symm.trans (hp.trans List.perm_middle)).cons_inv
  rwa [← List.map_append, ← List.map_append] at this

theorem Ents.with {a b' : List MapEntry} {e : MapEntry} {clk : Nat} {p q : List Chk} {c : Chk} (h : Ents (a ++ e :: b') clk (p ++ c :: q)) (hkey : e.key = .int .u32 c.id) (hp : ((a ++ b').map kvE).Perm ((p ++ q).map kvC)) (n : Int) :
    Ents (a ++ { e with val := valC (c.with n) } :: b') clk (p ++ c.with n :: q) := by
  refine ⟨?_, by simpa using h.born.1, fun d hd => ?_⟩
  · rw [List.map_append, List.map_cons, List.map_append, List.map_cons]
    refine List.perm_middle.trans (List.Perm.trans ?_ List.perm_middle.symm)
    rw [← List.map_append, ← List.map_append]
    have : kvE { e with val := valC (c.with n) } = kvC (c.with n) := by simp [kvE, kvC, hkey, Chk.with]
    rw [this]
    exact hp.cons _
  · rcases List.mem_append.1 hd with hd | hd
    · exact h.born.2 d (by simp [hd])
    · rcases List.mem_cons.1 hd with rfl | hd
      · exact h.born.2 e (by simp)
      · exact h.born.2 d (by simp [hd])
theorem Ents.drop {a b' : List MapEntry} {e : MapEntry} {clk : Nat} {p q : List Chk} {c : Chk} (h : Ents (a ++ e :: b') clk (p ++ c :: q)) (hp : ((a ++ b').map kvE).Perm ((p ++ q).map kvC)) : Ents (a ++ b') clk (p ++ q) := by
  have hs : (a ++ b').Sublist (a ++ e :: b') := (List.Sublist.refl a).append (List.sublist_cons_self e b')
  exact ⟨hp, h.born.1.sublist (hs.map _), fun d hd => h.born.2 d (hs.mem hd)⟩

theorem DP.ne (h : DP w b bm bi sl L nx S SI) : ¬ b = bm := fun e => by
  obtain ⟨es, clk, hm, _⟩ := h.map
  have := h.at_; rw [e, hm] at this; cases this

/-- m[id] = a chunk with another count. -/
theorem DP.update {u : World} {p q : List Chk} {c : Chk} (h : DP w b bm bi sl (p ++ c :: q) nx S SI) {n : Int} (hn : 1 ≤ n ∧ n ≤ 65535) :
    ∃ u, (Instr.mapUpdate T.«m_u32_dedup_chunk» (.map (some bm)) (.int .u32 c.id) (valC (c.with n))).run P w = .ok () u ∧ Keep S w u ∧ DP u b bm bi sl (p ++ c.with n :: q) nx S SI := by
  obtain ⟨es, clk, hm, he⟩ := h.map
  obtain ⟨a, e, b', rfl, hk, ha, hkey, hp⟩ := he.split h.wf
  obtain ⟨u, r, s⟩ := mapUpdate_old (P := P) (v := valC (c.with n)) mapOk Tryz.underlying48 (k := .int .u32 c.id) rfl rfl hm (he.like c.id) hk ha
  obtain ⟨ids, hi, hb⟩ := h.index
  refine ⟨u, r, s.keep.mono fun g _ hg => by rw [show g = bm from hg]; exact h.own.2.1, s.keep.at_ h.at_ h.ne, ⟨_, clk, s.at_, he.with hkey hp n⟩, ⟨ids, hi.keep s.keep fun g hg e => h.sep.2 (show SI bm from (show g = bm from e) ▸ hg), fun k hk => ?_⟩, h.own, h.sep, fun g hg => by rw [s.size]; exact h.lt g hg, h.wf.with hn, by have := h.len; simpa using this⟩
  refine (hb k hk).trans (List.Perm.of_eq ?_)
  simp only [List.filter_append, List.filter_cons, Chk.with]
  split <;> simp

theorem c_Hold (h : DP w b bm bi sl L nx S SI) (id : Int) : Calls P F.«dedup_Table_Hold» ⟨[.pointer (some ⟨b, 0, none⟩), .int .u32 id]⟩ w fun e w' => e = .returned (.int .i64 (holdR L id).1) ∧ DPost w b S (holdR L id).2 nx w' := by
  refine ok_dedup_Table_Hold ((c_find h id).mono ?_)
  rintro _ w1 ⟨rfl, k1⟩
  refine ⟨_, _, _, _, rfl, box3 fun u hu => ?_⟩
  have k2 : Keep NoB w u := k1.trans hu.keep fun _ _ h => h
  have hsame : DPost w b S L nx u := DPost.same h k2
  have p2 := h.keep k2 fun _ _ h => h
  rcases getC_at (L := L) (id := id) with ⟨g, g'⟩ | ⟨c, i, g, g', hi⟩
  · rw [g]
    refine bcase_mk (fun _ => ?_) (fun hb => by simp at hb)
    simp only [holdR, if_pos g']; exact ⟨rfl, hsame⟩
  · have hneg : ¬ atI L id < 0 := by omega
    obtain ⟨hcm, rfl⟩ := getC_some g
    have hr := (h.wf.rng c hcm).2.2
    rw [g] at hu ⊢
    refine bcase_mk (fun hb => by simp at hb) (fun _ => ⟨_, cell_at hu.at_ rfl, bcase_mk (fun hb => ?_) (fun hb => ⟨_, cell_at hu.at_ rfl, ?_⟩)⟩)
    · have hb : oRefs (some c) = 65535 := by simpa using hb
      have hb : c.refs = 65535 := hb
      simp only [holdR, if_neg hneg, g', Int.toNat_natCast, hi, if_pos (show c.refs ≥ 65535 by omega)]
      exact ⟨by first | exact rfl | exact trivial, hsame⟩
    · have hb : ¬ oRefs (some c) = 65535 := by simpa using hb
      have hb : ¬ c.refs = 65535 := hb
      have eadr : ((⟨w1.heap.size, 0, none⟩ : Addr).add 2).add 0 = (⟨w1.heap.size, 0, none⟩ : Addr).add 2 := by simp [add_mk]
      rw [eadr]
      refine store_step hu.at_ (by simp) fun u2 hu2 => ?_
      have k3 : Keep NoB w u2 := k2.trans hu2.keep fun g hg e => by have : g = w1.heap.size := e; have := k1.size; omega
      have p3 := h.keep k3 fun _ _ h => h
      refine ⟨_, p3.c0, _, _, _, ⟨cell_at hu2.at_ rfl, cell_at hu2.at_ rfl, cell_at hu2.at_ rfl, trivial⟩, fun w4 hd => ?_⟩
      have hw : IntKind.wrap .i64 (oRefs (some c) + 1) = c.refs + 1 := wrap64 (by show _ ≤ c.refs + 1; omega) (by show c.refs + 1 ≤ _; omega)
      obtain ⟨p, q, rfl, hpl⟩ := split_nth hi
      obtain ⟨u5, r5, k5, p5⟩ := (p3.drew hd).update (u := w4) (n := c.refs + 1) ⟨by omega, by omega⟩
      rw [hw]
      refine ⟨u5, r5, ?_⟩
      have hset : (p ++ c :: q).set i (c.with (c.refs + 1)) = p ++ c.with (c.refs + 1) :: q := by subst hpl; simp
      simp only [holdR, if_neg hneg, g', Int.toNat_natCast, hi, if_neg (show ¬ c.refs ≥ 65535 by omega), hset]
      exact ⟨by first | exact rfl | exact trivial, ((k3.mono fun _ _ h => h.elim).trans (Keep.drew S hd) fun _ _ h => h).trans k5 fun _ _ h => h, p5.ext⟩

theorem c_Release (h : DP w b bm bi sl L nx S SI) (id : Int) : Calls P F.«dedup_Table_Release» ⟨[.pointer (some ⟨b, 0, none⟩), .int .u32 id]⟩ w fun e w' =>
    e = .returned (.tuple ⟨[.bool (releaseR L id).1.1, .int .i64 (releaseR L id).1.2]⟩) ∧ DPost w b S (releaseR L id).2 nx w' := by
  refine ok_dedup_Table_Release ((c_find h id).mono ?_)
  rintro _ w1 ⟨rfl, k1⟩
  refine ⟨_, _, _, _, rfl, box3 fun u hu => ?_⟩
  have k2 : Keep NoB w u := k1.trans hu.keep fun _ _ h => h
  have hsame : DPost w b S L nx u := DPost.same h k2
  rcases getC_at (L := L) (id := id) with ⟨g, g'⟩ | ⟨c, i, g, g', hi⟩
  · rw [g]
    refine bcase_mk (fun _ => ?_) (fun hb => by simp at hb)
    simp only [releaseR, if_pos g']; exact ⟨rfl, hsame⟩
  · have hneg : ¬ atI L id < 0 := by omega
    obtain ⟨hcm, rfl⟩ := getC_some g
    have hr := (h.wf.rng c hcm).2.2
    have hds := (h.wf.rng c hcm).2.1
    rw [g] at hu ⊢
    have eadr : ((⟨w1.heap.size, 0, none⟩ : Addr).add 2).add 0 = (⟨w1.heap.size, 0, none⟩ : Addr).add 2 := by simp [add_mk]
    have hw : IntKind.wrap .i64 (oRefs (some c) - 1) = c.refs - 1 := wrap64 (by show _ ≤ c.refs - 1; omega) (by show c.refs - 1 ≤ _; omega)
    refine bcase_mk (fun hb => by simp at hb) (fun _ => ⟨_, cell_at hu.at_ rfl, ?_⟩)
    rw [eadr, hw]
    refine store_step hu.at_ (by simp) fun u2 hu2 => ⟨_, cell_at hu2.at_ rfl, ?_⟩
    have k3 : Keep NoB w u2 := k2.trans hu2.keep fun g hg e => by have : g = w1.heap.size := e; have := k1.size; omega
    have p3 := h.keep k3 fun _ _ h => h
    obtain ⟨p, q, rfl, hpl⟩ := split_nth hi
    refine bcase_mk (fun hb => ⟨_, p3.c0, _, _, _, ⟨cell_at hu2.at_ rfl, cell_at hu2.at_ rfl, cell_at hu2.at_ rfl, trivial⟩, fun w4 hd => ?_⟩) (fun hb => ⟨_, p3.c0, ?_⟩)
    · have hb : c.refs - 1 > 0 := of_decide_eq_true hb
      obtain ⟨u5, r5, k5, p5⟩ := (p3.drew hd).update (u := w4) (n := c.refs - 1) ⟨by omega, by omega⟩
      refine ⟨u5, r5, ?_⟩
      have hset : (p ++ c :: q).set i (c.with (c.refs - 1)) = p ++ c.with (c.refs - 1) :: q := by subst hpl; simp
      simp only [releaseR, if_neg hneg, g', Int.toNat_natCast, hi, if_pos hb, hset]
      exact ⟨by first | exact rfl | exact trivial, ((k3.mono fun _ _ h => h.elim).trans (Keep.drew S hd) fun _ _ h => h).trans k5 fun _ _ h => h, p5.ext⟩
    · have hb : ¬ c.refs - 1 > 0 := of_decide_eq_false hb
      obtain ⟨es, clk, hm, he⟩ := p3.map
      obtain ⟨a, e, b', rfl, hk, ha, hkey, hp⟩ := he.split h.wf
      obtain ⟨u4, r4, s4⟩ := mapDelete_old (P := P) (ty := T.«tup_») (tk := T.«u32») mapOk Tryz.underlying48 (k := .int .u32 c.id) rfl hm (he.like c.id) hk ha
      obtain ⟨ids, hid, hbk⟩ := p3.index
      have e4 := s4.keep.at_ p3.at_ p3.ne
      have z1 := k1.size
      have x4 : u4.heap[w1.heap.size]? = _ := s4.keep.at_ hu2.at_ (by have := h.lt bm h.own.2.1; show ¬ w1.heap.size = bm; omega)
      have i4 : HI u4 bi sl ids SI := hid.keep s4.keep fun g hg e => h.sep.2 (show SI bm from (show g = bm from e) ▸ hg)
      refine ⟨u4, r4, _, cell_at e4 rfl, _, cell_at x4 rfl, fun w5 hd => ?_⟩
      have hlen' : ∀ k, k < 16 → (ids k).length ≤ 100000 := fun k hk => by
        have := (hbk k hk).length_eq
        have h2 := List.length_filter_le (fun c : Chk => bucketN c.data == k) (p ++ c :: q)
        have := h.len
        simp only [List.length_map] at *; omega
      have hmem : c.id ∈ ids (bucketN c.data) := (hbk _ (bucketN_lt _)).mem_iff.2 (List.mem_map.2 ⟨c, List.mem_filter.2 ⟨by simp, by simp⟩, rfl⟩)
      refine (c_hashDrop (i4.drew hd) c.data c.id (by omega) hlen' hmem).mono ?_
      rintro _ w6 ⟨rfl, k6, z6, sl', j, hj, i6⟩
      have her : (p ++ c :: q).eraseIdx i = p ++ q := by subst hpl; simp [List.eraseIdx_append_of_length_le]
      refine ⟨_, rfl, ?_⟩
      simp only [releaseR, if_neg hneg, g', Int.toNat_natCast, hi, if_neg hb, her]
      refine ⟨by first | exact rfl | exact trivial, (((k3.mono fun _ _ h => h.elim).trans s4.keep fun g _ hg => by rw [show g = bm from hg]; exact h.own.2.1).trans (Keep.drew S hd) fun _ _ h => h).trans k6 fun g _ hg => h.own.2.2 g hg, ?_⟩
      have fin : DP w6 b bm bi sl' (p ++ q) nx S SI := by
        refine ⟨k6.at_ (hd.at_ e4) h.sep.1, ⟨_, clk, k6.at_ (hd.at_ s4.at_) h.sep.2, he.drop hp⟩, ⟨_, i6, fun k hk => ?_⟩, h.own, h.sep, fun g hg => ?_, h.wf.drop, by have := h.len; simp at this ⊢; omega⟩
        · by_cases hkk : k = bucketN c.data
          · subst hkk
            rw [updN_same]
            have hpp := hbk _ hk
            rw [List.filter_append, List.filter_cons, if_pos (by simp), List.map_append, List.map_cons] at hpp
            have hjlt : j < (ids (bucketN c.data)).length := (List.getElem?_eq_some_iff.1 hj).1
            have hjv : (ids (bucketN c.data))[j] = c.id := (List.getElem?_eq_some_iff.1 hj).2
            have h1 : (ids (bucketN c.data)).Perm (c.id :: (ids (bucketN c.data)).eraseIdx j) := by
              rw [List.eraseIdx_eq_take_drop_succ, ← hjv]
              conv => lhs; rw [← List.take_append_drop j (ids (bucketN c.data)), List.drop_eq_getElem_cons hjlt]
              exact List.perm_middle
            have := (h1.symm.trans (hpp.trans List.perm_middle)).cons_inv
            rw [List.filter_append, List.map_append]
            exact this
          · rw [updN_other hkk]
            have hpp := hbk _ hk
            rw [List.filter_append, List.filter_cons, if_neg (by simp; exact fun e => hkk e.symm)] at hpp
            rw [List.filter_append]
            exact hpp
        · rw [z6, hd.size, s4.size]; exact p3.lt g hg
      exact fin.ext
end

end Go.Proofs.YtgepmlgkeljelaaGreat.Vc
