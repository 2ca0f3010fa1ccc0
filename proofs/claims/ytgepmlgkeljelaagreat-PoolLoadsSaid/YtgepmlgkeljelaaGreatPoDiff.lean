/- Plans of a pool: Chunks. -/
import Derived.Test.YtgepmlgkeljelaaGreatPoSeq
namespace Go.Proofs.YtgepmlgkeljelaaGreat.Vc
open Go Go.Proofs

theorem keep2 (u : World) (o o' : Obj) : Keep NoB u ((u.alloc o).alloc o') := (New.mk' u o).keep.trans (New.mk' _ o').keep fun _ _ h => h

section
variable {w : World} {S : Foot}

theorem s_AppendSeq {tb cb : Nat} {L : List Chk} {nx : Int} {St : Foot} {a : Option Addr} {c : Nat} {ids : List Int} (ht : (Ded tb L nx).on w St) (hcb : w.heap[cb]? = some (.cells ⟨[ptr tb]⟩ T.«p_dedup_Table»)) (h : (Asrt.sl T.«u32» 1 a ids.length c (ids.map u32v)).on w S) (hl : ids.length ≤ 1000000) :
    Calls P F.«slices_AppendSeq_sl_uint32_uint32» ⟨[.slice a ids.length c, .func (.func F.«dedup_Table_All_1») ⟨[]⟩ ⟨[ptr cb]⟩]⟩ w fun e w' => ∃ a' c', e = .returned (.slice a' (ids ++ L.map (·.id)).length c') ∧ Own w S [.sl T.«u32» 1 a' (ids ++ L.map (·.id)).length c' ((ids ++ L.map (·.id)).map u32v)] w' := by
  refine ok_slices_AppendSeq_sl_uint32_uint32 ?_
  unfold V_slices_AppendSeq_sl_uint32_uint32
  refine alloc_step fun u0 n0 => ?_
  have H := (Own.of1 h).add (Own.new n0)
  show bW true _
  intro y rec rounds
  have hwf := Ded.wf ht
  have k2 := keep2 u0 (.deferred (some [])) (rec .ready none)
  have H := H.push2 (o := .deferred (some [])) (o' := rec .ready none)
  have kk : Keep NoB w ((u0.alloc (.deferred (some []))).alloc (rec .ready none)) := n0.keep.trans k2 fun _ _ h => h
  generalize hs : (u0.alloc (.deferred (some []))).alloc (rec .ready none) = us at *
  let J : Nat → List Int := fun i => ids ++ (L.take i).map (·.id)
  let X : Option Addr → Nat → Nat → LoopState → List Asrt := fun a c i st => [.sl T.«u32» 1 a (J i).length c ((J i).map u32v), At w.heap.size (.cells ⟨[.slice a (J i).length c]⟩ T.«l_u32»), At u0.heap.size (.deferred (some [])), At (u0.heap.size + 1) (rec st none)]
  have eJ0 : J 0 = ids := by simp [J]
  have H : Own w S (X a c 0 .ready) us := by
    show Own w S [.sl T.«u32» 1 a (J 0).length c ((J 0).map u32v), At w.heap.size (.cells ⟨[.slice a (J 0).length c]⟩ T.«l_u32»), _, _] us
    rw [eJ0]; exact H
  obtain ⟨Sx, hx, back⟩ := H.all
  have ht2 : (Ded tb L nx).on us St := (Ded tb L nx).loc ht (fun g hg => kk.block g ((Ded tb L nx).lt ht hg) fun h => h) kk.size
  refine (t_All1 (b := tb) (L := L) (nx := nx) (I := fun i => .ex fun ac : Option Addr × Nat => .sep (X ac.1 ac.2 i .ready)) (Stop := .pure False .emp) (S := Sx) ⟨(a, c), hx⟩ ht2 (kk.at_ hcb fun h => h) fun i x hi v Q hv _ _ => ?_).mono ?_
  · obtain ⟨⟨a1, c1⟩, H⟩ := (Own.of1 hv).opEx
    have H := H.opSep
    have hil : i < L.length := (List.getElem?_eq_some_iff.1 hi).1
    have hJl : (J i).length ≤ 1001000 := by simp only [J, List.length_append, List.length_map, List.length_take]; have := hwf.2; omega
    have eJ : J (i + 1) = J i ++ [x.id] := by simp only [J]; rw [List.take_add_one, hi]; simp
    refine rounds _ _ v H.ob ⟨H.ob, H.po fun v1 H => ⟨_, _, _, H.rd0 rfl, ?_⟩⟩
    refine H.app1 (ty := T.«l_u32») u32Ok (v := .int .u32 x.id) rfl (fun u hu => by rw [List.mem_singleton.1 hu]; rfl) (by omega) (by omega) fun a2 c2 v2 H => H.st fun v3 H => ⟨H.ob, .inl ⟨rfl, ?_⟩⟩
    have H := H.po' (b := u0.heap.size + 1) (o := rec .ready none)
    refine Own.mkEx (a2, c2) (Own.mkSep (l1 := X a2 c2 (i + 1) .ready) (l := []) ?_)
    have hl1 : (J (i + 1)).length = (J i).length + 1 := by rw [eJ]; simp
    have hm1 : (J (i + 1)).map u32v = (J i).map u32v ++ [u32v x.id] := by rw [eJ]; simp
    simp only [X, hl1, hm1]
    exact H.front4
  · have eJL : J L.length = ids ++ L.map (·.id) := by show ids ++ (L.take L.length).map _ = _; rw [List.take_length]
    rintro _ w' ⟨rfl, hE | hS⟩
    · obtain ⟨⟨a1, c1⟩, H⟩ := hE.opEx
      have H : Own w S (X a1 c1 L.length .ready) w' := back _ _ H.opSep.front4
      refine ⟨⟨_, rfl⟩, .inl ⟨.ready, by decide, H.ob, H.po fun v H => ⟨_, _, _, H.rd0 rfl, H.ob, H.po fun v H => ⟨a1, c1, by rw [eJL], ?_⟩⟩⟩⟩
      have H := H.front
      rw [eJL] at H; exact H
    · exact absurd hS.opPure.1 id

theorem s_CollectAll {tb cb : Nat} {L : List Chk} {nx : Int} {St : Foot} (ht : (Ded tb L nx).on w St) (hcb : w.heap[cb]? = some (.cells ⟨[ptr tb]⟩ T.«p_dedup_Table»)) :
    Calls P F.«slices_Collect_uint32» ⟨[.func (.func F.«dedup_Table_All_1») ⟨[]⟩ ⟨[ptr cb]⟩]⟩ w fun e w' => ∃ a' c', e = .returned (.slice a' (L.map (·.id)).length c') ∧ Own w NoB [.sl T.«u32» 1 a' (L.map (·.id)).length c' ((L.map (·.id)).map u32v)] w' := by
  refine ok_slices_Collect_uint32 ?_
  unfold V_slices_Collect_uint32
  refine (s_AppendSeq (S := NoB) (ids := []) (a := none) (c := 0) ht hcb ⟨fun g => ⟨fun h => h.elim, fun h => Blk.none h⟩, Sl.nil _ _ _⟩ (by simp)).mono ?_
  rintro _ w' ⟨a, c, rfl, h⟩
  exact ⟨_, _, _, rfl, a, c, rfl, h⟩

/-- A chunk without its data. -/
structure PC where
  id : Int
  block : Int
  refs : Int
  size : Int
instance : DecidableEq PC := fun a b => by
  obtain ⟨a1, a2, a3, a4⟩ := a
  obtain ⟨b1, b2, b3, b4⟩ := b
  exact decidable_of_iff (a1 = b1 ∧ a2 = b2 ∧ a3 = b3 ∧ a4 = b4) (by simp)
def encPC (c : PC) : List Value := [.int .u32 c.id, .int .i64 c.block, .int .i64 c.refs, .int .i64 c.size]
def pcOf (c : Chk) : PC := ⟨c.id, c.block, c.refs, (c.data.size : Int)⟩
theorem encP_pc (c : Chk) : encP c = encPC (pcOf c) := rfl
def goneC (id : Int) : PC := ⟨id, 0, 0, 0⟩
/-- What a plan tells of an id. -/
def diffOne (L0 L : List Chk) (id : Int) : Option PC :=
  match getC L id, getC L0 id with
  | some c, none => some (pcOf c)
  | some c, some c0 => if pcOf c = pcOf c0 then none else some (pcOf c)
  | none, some _ => some (goneC id)
  | none, none => none
theorem eql_pc (w : World) (a b : PC) : eqlRun P .neq T.«pool_Chunk» (.agg ⟨encPC a⟩) (.agg ⟨encPC b⟩) w (!decide (a = b)) := by
  obtain ⟨r, _, h2, hi⟩ := eql_plain (P := P) (t := T.«pool_Chunk») (xs := ⟨encPC a⟩) (ys := ⟨encPC b⟩) (L := [(true, 0, T.«u32»), (true, 1, T.«i64'»), (true, 2, T.«i64'»), (true, 3, T.«i64'»)]) (by kernel_rfl) (by kernel_rfl) (by kernel_rfl) w (by kernel_rfl) (by
    have hu := Tryz.underlying48
    have hi := Tryz.underlying3
    intro x hx
    simp only [List.mem_cons, List.not_mem_nil, or_false] at hx
    rcases hx with rfl | rfl | rfl | rfl
    · exact ⟨rfl, _, _, rfl, rfl, .inl ⟨_, _, _, _, hu, rfl, rfl⟩⟩
    · exact ⟨rfl, _, _, rfl, rfl, .inl ⟨_, _, _, _, hi, rfl, rfl⟩⟩
    · exact ⟨rfl, _, _, rfl, rfl, .inl ⟨_, _, _, _, hi, rfl, rfl⟩⟩
    · exact ⟨rfl, _, _, rfl, rfl, .inl ⟨_, _, _, _, hi, rfl, rfl⟩⟩)
  have : r = decide (a = b) := by
    refine Bool.eq_iff_iff.2 (hi.trans ?_)
    obtain ⟨a1, a2, a3, a4⟩ := a
    obtain ⟨b1, b2, b3, b4⟩ := b
    simp [encPC]
  rw [← this]; exact h2

variable {qb pb tq fq : Nat} {s : PS}
theorem q_Chunks_over (h : w.heap[qb]? = some (PlnO pb tq fq true)) : Calls P F.«pool_Plan_Chunks» ⟨[ptr qb]⟩ w fun e w' => e = .returned (.slice none 0 0) ∧ w = w' := by
  refine ok_pool_Plan_Chunks ?_
  unfold V_pool_Plan_Chunks
  refine (q_may h).mono ?_
  rintro _ _ ⟨rfl, rfl⟩
  exact ⟨_, rfl, bcase_mk (fun _ => ⟨rfl, rfl⟩) fun h => by cases h⟩

theorem q_Chunks {lb tp fp : Nat} {L0 : List Chk} {nx0 : Int} {S1 S2 : Foot} (ho : w.heap[qb]? = some (PlnO pb tq fq false)) (ht : (Ded tq s.L s.nx).on w S1) (hp : w.heap[pb]? = some (PolO lb tp fp)) (ht0 : (Ded tp L0 nx0).on w S2) :
    Calls P F.«pool_Plan_Chunks» ⟨[ptr qb]⟩ w fun e w' => ∃ ids : List Int, ids.Pairwise (· < ·) ∧ (∀ id, id ∈ ids ↔ (∃ c ∈ L0, c.id = id) ∨ ∃ c ∈ s.L, c.id = id) ∧
      ∃ a c, e = .returned (.slice a (ids.filterMap (diffOne L0 s.L)).length c) ∧ Own w NoB [.sl T.«pool_Chunk» 4 a (ids.filterMap (diffOne L0 s.L)).length c ((ids.filterMap (diffOne L0 s.L)).flatMap encPC)] w' := by
  refine ok_pool_Plan_Chunks ?_
  unfold V_pool_Plan_Chunks
  refine (q_may ho).mono ?_
  rintro _ _ ⟨rfl, rfl⟩
  refine ⟨_, rfl, bcase_mk (fun h => by cases h) fun _ wd hd => ?_⟩
  have k0 : Keep NoB w wd := Keep.drew _ hd
  have rq : ∀ {v : World}, Keep NoB w v → v.heap[qb]? = some (PlnO pb tq fq false) := fun k => k.at_ ho fun h => h
  have rp : ∀ {v : World}, Keep NoB w v → v.heap[pb]? = some (PolO lb tp fp) := fun k => k.at_ hp fun h => h
  have rt : ∀ {v : World}, Keep NoB w v → (Ded tq s.L s.nx).on v S1 := fun k => (Ded tq s.L s.nx).loc ht (fun g hg => k.block g ((Ded tq s.L s.nx).lt ht hg) fun h => h) k.size
  have rt0 : ∀ {v : World}, Keep NoB w v → (Ded tp L0 nx0).on v S2 := fun k => (Ded tp L0 nx0).loc ht0 (fun g hg => k.block g ((Ded tp L0 nx0).lt ht0 hg) fun h => h) k.size
  have hwf := Ded.wf ht
  have hwf0 := Ded.wf ht0
  refine ⟨some ⟨pb, 0, none⟩, cell_at (rq k0) rfl, some ⟨tp, 0, none⟩, cell_at (rp k0) rfl, some ⟨tq, 0, none⟩, cell_at (rq k0) rfl, (t_All wd _).mono ?_⟩
  rintro _ u1 ⟨rfl, h1⟩
  have k1 : Keep NoB w u1 := k0.trans h1.keep fun _ _ h => h
  refine ⟨_, rfl, ⟨some ⟨tq, 0, none⟩, cell_at (rq k1) rfl, rfl⟩, (s_CollectAll (rt0 k1) h1.ob).mono ?_⟩
  rintro _ u2 ⟨a2, c2, rfl, h2⟩
  have k2 : Keep NoB w u2 := k1.trans h2.keep fun _ _ h => h
  refine ⟨_, _, _, rfl, ⟨some ⟨tq, 0, none⟩, cell_at (rq k2) rfl, rfl⟩, (t_All u2 _).mono ?_⟩
  rintro _ u3 ⟨rfl, h3⟩
  have k3 : Keep NoB w u3 := k2.trans h3.keep fun _ _ h => h
  have B : Own w NoB [.sl T.«u32» 1 a2 (L0.map (·.id)).length c2 ((L0.map (·.id)).map u32v)] u3 := (((Own.nil w).quiet k1).add h2).quiet h3.keep
  obtain ⟨Sa, hSa, backa⟩ := B.foc0
  refine ⟨_, rfl, (s_AppendSeq (rt k3) h3.ob hSa (by rw [List.length_map]; have := hwf0.2; omega)).mono ?_⟩
  rintro _ u4 ⟨a4, c4, rfl, h4⟩
  have B := (backa _ _ _ h4).front
  have k4 := B.keep
  have hlen : (L0.map (·.id) ++ s.L.map (·.id)).length ≤ 2000 := by rw [List.length_append, List.length_map, List.length_map]; have := hwf.2; have := hwf0.2; omega
  generalize hI : L0.map (·.id) ++ s.L.map (·.id) = I at *
  obtain ⟨Sb, hSb, backb⟩ := B.foc0
  refine ⟨_, _, _, rfl, (sortOk u4 a4 c4 I hSb.2 (by omega)).mono ?_⟩
  rintro _ u5 ⟨rfl, I', hperm, hsorted, hU, k5⟩
  have B : Own w NoB [.sl T.«u32» 1 a4 I'.length c4 (I'.map u32v)] u5 := (backb (.sl T.«u32» 1 a4 I'.length c4 (I'.map u32v)) [] u5 (Own.mk1 (S' := Blk a4) (k5.mono fun g _ hg => (hSb.1 g).2 hg) ⟨fun _ => Iff.rfl, hU⟩ fun g hg => .inl ((hSb.1 g).2 hg))).front
  have hpl := hperm.length_eq
  obtain ⟨Sc, hSc, backc⟩ := B.foc0
  refine ⟨rfl, ?_⟩
  rw [← hpl]
  refine (s_Compact hSc (by omega)).mono ?_
  rintro _ u6 ⟨rfl, h6⟩
  have B := (backc _ _ _ h6).front
  have hids : (cmpR I').Pairwise (· < ·) := cmpR_sorted I' hsorted
  have hmem : ∀ id, id ∈ cmpR I' ↔ (∃ c ∈ L0, c.id = id) ∨ ∃ c ∈ s.L, c.id = id := fun id => by
    rw [cmpR_mem, hperm.mem_iff, ← hI, List.mem_append, List.mem_map, List.mem_map]
  have hil : (cmpR I').length ≤ 2000 := by
    have go : ∀ l : List Int, (cmpR l).length ≤ l.length := fun l => by
      induction l with
      | nil => exact Nat.le_refl _
      | cons x r ih =>
        unfold cmpR
        cases h : cmpR r with
        | nil => simp
        | cons y k =>
          rw [h] at ih
          simp only
          split
          · simp only [List.length_cons] at *; omega
          · simp only [List.length_cons] at *; omega
    have := go I'
    omega
  generalize hidef : cmpR I' = ids at *
  let G : List Int → List PC := fun l => l.filterMap (diffOne L0 s.L)
  refine ⟨_, _, _, rfl, fun p u => ∃ (i : Nat) (a : Option Addr) (c : Nat), p = ((a, (G (ids.take i)).length, c), (i : Int), ()) ∧ i ≤ ids.length ∧ Own w NoB [.sl T.«pool_Chunk» 4 a (G (ids.take i)).length c ((G (ids.take i)).flatMap encPC), .sl T.«u32» 1 a4 ids.length c4 (ids.map u32v)] u, fun p _ => ids.length - p.2.1.toNat, ⟨0, none, 0, rfl, Nat.zero_le _, B.nilRow T.«pool_Chunk» 4⟩, ?_⟩
  rintro _ a l c n v ⟨i, a', c', he, hi, H⟩
  simp only [Prod.mk.injEq, and_true] at he
  obtain ⟨⟨rfl, rfl, rfl⟩, rfl⟩ := he
  generalize hbb : decide ((i : Int) < ((ids.length : Nat) : Int)) = bb
  refine bcase_mk (fun hlt => ?_) fun hge => ?_
  · have hlt : i < ids.length := by have := of_decide_eq_true (hbb.trans hlt); omega
    obtain ⟨_, hs⟩ := H.has i1
    obtain ⟨g, rfl⟩ := hs.2.some (by omega)
    have wi : IntKind.wrap .i64 ((i : Int) + 1) = ((i + 1 : Nat) : Int) := by rw [wrap64 (by omega) (by omega)]; omega
    have dec : ids.length - ((i + 1 : Nat) : Int).toNat < ids.length - ((i : Nat) : Int).toNat := by omega
    rw [wi]
    have kv := H.keep
    refine ⟨⟨by omega, by omega⟩, ids[i], ?_, some ⟨pb, 0, none⟩, cell_at (rq kv) rfl, some ⟨tp, 0, none⟩, cell_at (rp kv) rfl, (o_chunk (rt0 kv) ids[i]).mono ?_⟩
    · rw [add_mk, Int.toNat_natCast, Nat.mul_one, Nat.zero_add]
      exact (hs.2.cell (by simp [List.getElem?_eq_getElem hlt])).2
    rintro _ v1 ⟨rfl, kc⟩
    have H := H.quiet kc
    refine ⟨_, _, _, _, _, rfl, H.al fun v H => H.st fun v H => H.st fun v H => H.st fun v H => H.st fun v2 H => ⟨some ⟨tq, 0, none⟩, cell_at (rq H.keep) rfl, (o_chunk (rt H.keep) ids[i]).mono ?_⟩⟩
    rintro _ v3 ⟨rfl, kc2⟩
    have H := H.quiet kc2
    refine ⟨_, _, _, _, _, rfl, H.al fun v H => H.st fun v H => H.st fun v H => H.st fun v H => H.st fun v4 H => ?_⟩
    have hG : G (ids.take (i + 1)) = G (ids.take i) ++ (diffOne L0 s.L ids[i]).toList := by
      simp only [G]
      rw [List.take_succ_eq_append_getElem hlt, List.filterMap_append]
      cases h : diffOne L0 s.L ids[i] <;> simp [h]
    have hGl : (G (ids.take i)).length ≤ 2000 := by
      have := List.length_filterMap_le (diffOne L0 s.L) (ids.take i)
      rw [List.length_take] at this
      show ((ids.take i).filterMap _).length ≤ 2000; omega
    have gmem : ∀ {L : List Chk} {id : Int} {x : Chk}, getC L id = some x → x.id = id := fun h => (getC_some h).2
    have keepOn : ∀ {l : List Asrt} {v' : World}, diffOne L0 s.L ids[i] = none → Own w NoB (.sl T.«pool_Chunk» 4 a (G (ids.take i)).length c ((G (ids.take i)).flatMap encPC) :: .sl T.«u32» 1 (some ⟨g, 0, none⟩) ids.length c4 (ids.map u32v) :: l) v' →
        ∃ (i_1 : Nat) (a_1 : Option Addr) (c_1 : Nat), (((a, (G (ids.take i)).length, c), ((i + 1 : Nat) : Int), ()) : Tup [(2, .slice), (33, (.int .i64))]) = ((a_1, (G (ids.take i_1)).length, c_1), (i_1 : Int), ()) ∧ i_1 ≤ ids.length ∧ Own w NoB [.sl T.«pool_Chunk» 4 a_1 (G (ids.take i_1)).length c_1 ((G (ids.take i_1)).flatMap encPC), .sl T.«u32» 1 (some ⟨g, 0, none⟩) ids.length c4 (ids.map u32v)] v' := fun hn H => by
      have e : G (ids.take (i + 1)) = G (ids.take i) := by rw [hG, hn]; simp
      exact ⟨i + 1, a, c, by rw [e], hlt, by rw [e]; exact H.front2⟩
    have more : ∀ (l : List Asrt) (v' : World) (x : PC), diffOne L0 s.L ids[i] = some x → Own w NoB (.sl T.«pool_Chunk» 4 a (G (ids.take i)).length c ((G (ids.take i)).flatMap encPC) :: .sl T.«u32» 1 (some ⟨g, 0, none⟩) ids.length c4 (ids.map u32v) :: l) v' → ∀ (K : Option Addr → Nat → Nat → World → Prop),
        (∀ a2 c2 v2, (∃ (i_1 : Nat) (a_1 : Option Addr) (c_1 : Nat), (((a2, (G (ids.take i)).length + 1, c2), ((i + 1 : Nat) : Int), ()) : Tup [(2, .slice), (33, (.int .i64))]) = ((a_1, (G (ids.take i_1)).length, c_1), (i_1 : Int), ()) ∧ i_1 ≤ ids.length ∧ Own w NoB [.sl T.«pool_Chunk» 4 a_1 (G (ids.take i_1)).length c_1 ((G (ids.take i_1)).flatMap encPC), .sl T.«u32» 1 (some ⟨g, 0, none⟩) ids.length c4 (ids.map u32v)] v2) → K a2 ((G (ids.take i)).length + 1) c2 v2) →
        ∃ (a5 : Option Addr) (l5 c5 : Nat), ∃ w5, (Instr.buildSlice T.«l_pool_Chunk» 1 ⟨[(0, .agg ⟨encPC x⟩)]⟩).run P v' = .ok (.slice a5 l5 c5) w5 ∧
          ∃ (a7 : Option Addr) (l7 c7 : Nat), ∃ w7, (Builtin.append_ ⟨[T.«l_pool_Chunk», T.«l_pool_Chunk»]⟩ T.«l_pool_Chunk» ⟨[.slice a (G (ids.take i)).length c, .slice a5 l5 c5]⟩).run P w5 = .ok (.slice a7 l7 c7) w7 ∧ K a7 l7 c7 w7 := by
      intro l v' x hn H K hk
      have e : G (ids.take (i + 1)) = G (ids.take i) ++ [x] := by rw [hG, hn]; rfl
      have e1 : (G (ids.take (i + 1))).length = (G (ids.take i)).length + 1 := by rw [e]; simp
      have e2 : (G (ids.take (i + 1))).flatMap encPC = (G (ids.take i)).flatMap encPC ++ encPC x := by rw [e]; simp
      exact H.app1 (ty := T.«l_pool_Chunk») polOk (v := .agg ⟨encPC x⟩) rfl (fun u hu => by
        have hu : u ∈ encPC x := hu
        simp only [encPC, List.mem_cons, List.not_mem_nil, or_false] at hu
        rcases hu with rfl | rfl | rfl | rfl <;> rfl) (by omega) (by omega) fun a2 c2 v2 H => hk a2 c2 v2 ⟨i + 1, a2, c2, by rw [e1], hlt, by rw [e1, e2]; exact H.front2⟩
    refine ⟨fun p v' => p.1 = (match getC s.L ids[i], getC L0 ids[i] with | some c, some c0 => !decide (pcOf c = pcOf c0) | some _, none => true | none, _ => false) ∧ v' = v4, ?_, ?_⟩
    · cases hc : getC s.L ids[i] with
      | none => exact bcase_mk (fun h => by cases h) fun _ => ⟨rfl, rfl⟩
      | some x =>
        cases hc0 : getC L0 ids[i] with
        | none => exact bcase_mk (fun _ => bcase_mk (fun _ => ⟨rfl, rfl⟩) fun h => by cases h) fun h => by cases h
        | some x0 =>
          rw [hc, hc0] at H
          have e1 := gmem hc
          have e0 := gmem hc0
          refine bcase_mk (fun _ => bcase_mk (fun h => by cases h) fun _ => ?_) fun h => by cases h
          refine ⟨_, _, _, _, ⟨H.rd (i := 0) rfl, H.rd (i := 1) rfl, H.rd (i := 2) rfl, H.rd (i := 3) rfl, trivial⟩, _, _, _, _, ⟨H.rd (i := 0) rfl, H.rd (i := 1) rfl, H.rd (i := 2) rfl, H.rd (i := 3) rfl, trivial⟩, _, ?_, rfl, rfl⟩
          have := eql_pc v4 (pcOf x) (pcOf x0)
          simp only [encPC, pcOf, e1, e0] at this ⊢
          exact this
    · rintro _ b _ ⟨hb, rfl⟩
      have hb : b = (match getC s.L ids[i], getC L0 ids[i] with | some c, some c0 => !decide (pcOf c = pcOf c0) | some _, none => true | none, _ => false) := hb
      cases hc : getC s.L ids[i] with
      | none =>
        rw [hc] at hb H
        have hb : b = false := hb
        subst hb
        refine bcase_mk (fun h => by cases h) fun _ => ?_
        cases hc0 : getC L0 ids[i] with
        | none => exact bcase_mk (fun h => by cases h) fun _ => ⟨keepOn (by simp [diffOne, hc, hc0]) H, dec⟩
        | some x0 => exact bcase_mk (fun _ => bcase_mk (fun _ => more _ _ (goneC ids[i]) (by simp [diffOne, hc, hc0]) H _ fun a2 c2 v2 hI => ⟨hI, dec⟩) fun h => by cases h) fun h => by cases h
      | some x =>
        have e1 := gmem hc
        have hx1 : ∀ x : Chk, x.id = ids[i] → (⟨[.int .u32 ids[i], .int .i64 (oBlock (some x)), .int .i64 (oRefs (some x)), .int .i64 ((oData (some x)).size : Int)]⟩ : Array Value) = ⟨encPC (pcOf x)⟩ := fun x e1 => by simp [encPC, pcOf, e1, oBlock, oRefs, oData]
        cases hc0 : getC L0 ids[i] with
        | none =>
          rw [hc, hc0] at hb
          have hb : b = true := hb
          subst hb
          rw [hc] at H
          refine bcase_mk (fun _ => ⟨_, _, _, _, ⟨H.rd (i := 0) rfl, H.rd (i := 1) rfl, H.rd (i := 2) rfl, H.rd (i := 3) rfl, trivial⟩, ?_⟩) fun h => by cases h
          have hd : diffOne L0 s.L ids[i] = some (pcOf x) := by simp [diffOne, hc, hc0]
          rw [hx1 x e1]
          exact more _ _ (pcOf x) hd H _ fun a2 c2 v2 hI => ⟨hI, dec⟩
        | some x0 =>
          rw [hc, hc0] at hb
          have hb : b = !decide (pcOf x = pcOf x0) := hb
          by_cases heq : pcOf x = pcOf x0
          · rw [decide_eq_true heq] at hb
            have hb : b = false := hb
            subst hb
            refine bcase_mk (fun h => by cases h) fun _ => bcase_mk (fun _ => bcase_mk (fun h => by cases h) fun _ => ⟨keepOn (by simp [diffOne, hc, hc0, heq]) H, dec⟩) fun h => by cases h
          · rw [decide_eq_false heq] at hb
            have hb : b = true := hb
            subst hb
            rw [hc] at H
            refine bcase_mk (fun _ => ⟨_, _, _, _, ⟨H.rd (i := 0) rfl, H.rd (i := 1) rfl, H.rd (i := 2) rfl, H.rd (i := 3) rfl, trivial⟩, ?_⟩) fun h => by cases h
            have hd : diffOne L0 s.L ids[i] = some (pcOf x) := by simp [diffOne, hc, hc0, heq]
            rw [hx1 x e1]
            exact more _ _ (pcOf x) hd H _ fun a2 c2 v2 hI => ⟨hI, dec⟩
  · have hie : i = ids.length := by have := of_decide_eq_false (hbb.trans hge); omega
    rw [hie, List.take_length] at H
    rw [hie, List.take_length]
    exact ⟨ids, hids, hmem, a, c, rfl, H.front⟩
end
end Go.Proofs.YtgepmlgkeljelaaGreat.Vc
