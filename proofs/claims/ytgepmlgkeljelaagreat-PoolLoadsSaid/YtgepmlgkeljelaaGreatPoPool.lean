/- The pool (package pool), without plans. -/
import Derived.Test.YtgepmlgkeljelaaGreatPoLine
import Derived.Test.YtgepmlgkeljelaaGreatPoSpace
import Derived.Test.YtgepmlgkeljelaaGreatPoSplit
import Derived.Test.YtgepmlgkeljelaaGreatPoTab
namespace Go.Proofs.YtgepmlgkeljelaaGreat.Vc
open Go Go.Proofs

abbrev ptr (b : Nat) : Value := .pointer (some ⟨b, 0, none⟩)
abbrev PolO (lb tb fb : Nat) : Obj := .cells ⟨[ptr lb, ptr tb, ptr fb]⟩ T.«pool_Pool»
/-- The pool at pb: its line at lb; chunks L, next id nx, used blocks f. -/
def Pol (pb lb : Nat) (L : List Chk) (nx : Int) (f : Nat → Bool) : Asrt := .ex fun tb : Nat => .ex fun fb : Nat => .sep [At pb (PolO lb tb fb), Ded tb L nx, Spc fb f]
def encP (c : Chk) : List Value := [.int .u32 c.id, .int .i64 c.block, .int .i64 c.refs, .int .i64 (c.data.size : Int)]
theorem encP_length (L : List Chk) : (L.flatMap encP).length = L.length * 4 := by
  induction L with
  | nil => rfl
  | cons c L ih => rw [List.flatMap_cons, List.length_append, ih, List.length_cons]; show 4 + _ = _; omega
theorem polOk : ElemOk P T.«l_pool_Chunk» T.«pool_Chunk» 4 32 := ⟨Tryz.underlying46, infoOk (z := .agg ⟨[.int .u32 0, .int .i64 0, .int .i64 0, .int .i64 0]⟩) (by kernel_rfl) rfl, by decide⟩

section
variable {w W0 : World} {S S0 : Foot} {pb lb db tb fb : Nat} {ls : LineS} {L : List Chk} {nx : Int} {f : Nat → Bool} {l : List Asrt}

theorem Pol.op (H : Own W0 S0 (Pol pb lb L nx f :: l) w) : ∃ tb fb, Own W0 S0 (At pb (PolO lb tb fb) :: Ded tb L nx :: Spc fb f :: l) w := by
  obtain ⟨tb, H⟩ := H.opEx
  obtain ⟨fb, H⟩ := H.opEx
  exact ⟨tb, fb, H.opSep⟩
theorem Pol.cl (H : Own W0 S0 (At pb (PolO lb tb fb) :: Ded tb L nx :: Spc fb f :: l) w) : Own W0 S0 (Pol pb lb L nx f :: l) w :=
  Own.mkEx tb (Own.mkEx fb (Own.mkSep H))
/-- What is read of a pool: its parts, to be put back. -/
theorem Pol.parts (h : (Pol pb lb L nx f).on w S) : ∃ tb fb St Sf, w.heap[pb]? = some (PolO lb tb fb) ∧ (Ded tb L nx).on w St ∧ (Spc fb f).on w Sf := by
  obtain ⟨tb, fb, H⟩ := Pol.op (Own.of1 h)
  obtain ⟨St, ht⟩ := H.has i1
  obtain ⟨Sf, hf⟩ := H.has i2
  exact ⟨tb, fb, St, Sf, H.ob, ht, hf⟩

theorem o_is (h : w.heap[pb]? = some (PolO lb tb fb)) : Calls P F.«pool_Pool_is» ⟨[ptr pb]⟩ w fun e w' => e = .returned (.bool true) ∧ w = w' := by
  refine ok_pool_Pool_is ?_
  unfold V_pool_Pool_is
  exact bcase_mk (fun _ => ⟨_, cell_at h rfl, rfl, rfl⟩) fun h => by cases h

theorem o_Make (h : (Lin lb db ls).on w S) : Calls P F.«pool_Make» ⟨[ptr lb]⟩ w fun e w' => ∃ pb, e = .returned (ptr pb) ∧ Own w S [Lin lb db ls, Pol pb lb [] 1 (fun _ => false)] w' := by
  refine ok_pool_Make ?_
  unfold V_pool_Make
  have H := Own.of1 h
  refine bcase_mk (fun h => by cases h) fun _ => (l_Device h).mono ?_
  rintro _ _ ⟨rfl, rfl⟩
  refine ⟨_, rfl, bcase_mk (fun h => by cases h) fun _ => (l_Device h).mono ?_⟩
  rintro _ _ ⟨rfl, rfl⟩
  obtain ⟨a, c, ho, hl, S3, h3, _⟩ := Lin.dev h
  obtain ⟨_, g, c2, H2⟩ := Dev.op (Own.of1 h3)
  refine ⟨_, rfl, (d_Blocks H2.ob).mono ?_⟩
  rintro _ _ ⟨rfl, rfl⟩
  refine ⟨_, rfl, (t_New w).mono ?_⟩
  rintro _ w1 ⟨tb, rfl, h1⟩
  have e1 : IntKind.wrap .i64 (Int.tdiv (256 : Int) 2) = 128 := by decide
  rw [e1]
  refine ⟨_, rfl, by decide, (p_New w1).mono ?_⟩
  rintro _ w2 ⟨fb, rfl, h2⟩
  refine ⟨_, rfl, ((H.add h1).add h2).al fun u H => ⟨_, rfl, ?_⟩⟩
  have H : Own w S [Lin lb db ls, Ded tb [] 1, Spc fb (fun _ => false), At w2.heap.size (PolO lb tb fb)] u := H
  refine Own.perm (l := [Pol w2.heap.size lb [] 1 (fun _ => false), Lin lb db ls]) (Pol.cl (tb := tb) (fb := fb) (H.perm ?_)) (List.Perm.swap _ _ _)
  exact (List.perm_append_comm (l₁ := [Lin lb db ls]) (l₂ := [Ded tb [] 1, Spc fb (fun _ => false), At w2.heap.size (PolO lb tb fb)])).trans ((List.perm_append_comm (l₁ := [Ded tb [] 1, Spc fb (fun _ => false)]) (l₂ := [At w2.heap.size (PolO lb tb fb), Lin lb db ls])).trans (List.Perm.cons _ (List.perm_append_comm (l₁ := [Lin lb db ls]) (l₂ := [Ded tb [] 1, Spc fb (fun _ => false)]))))

theorem o_Free (h : (Pol pb lb L nx f).on w S) : Calls P F.«pool_Pool_Free» ⟨[ptr pb]⟩ w fun e w' => e = .returned (.int .i64 (frees f 256 : Nat)) ∧ Keep NoB w w' := by
  refine ok_pool_Pool_Free ?_
  unfold V_pool_Pool_Free
  obtain ⟨tb, fb, St, Sf, ho, ht, hf⟩ := Pol.parts h
  refine (o_is ho).mono ?_
  rintro _ _ ⟨rfl, rfl⟩
  refine ⟨_, rfl, bcase_mk (fun h => by cases h) fun _ => ⟨_, cell_at ho rfl, (p_Count hf).mono ?_⟩⟩
  rintro _ w1 ⟨rfl, k⟩
  exact ⟨_, rfl, rfl, k⟩
theorem o_Next (h : (Pol pb lb L nx f).on w S) : Calls P F.«pool_Pool_Next» ⟨[ptr pb]⟩ w fun e w' => e = .returned (.int .u32 nx) ∧ w = w' := by
  refine ok_pool_Pool_Next ?_
  unfold V_pool_Pool_Next
  obtain ⟨tb, fb, St, Sf, ho, ht, hf⟩ := Pol.parts h
  refine (o_is ho).mono ?_
  rintro _ _ ⟨rfl, rfl⟩
  refine ⟨_, rfl, bcase_mk (fun h => by cases h) fun _ => ⟨_, cell_at ho rfl, (t_Next ht).mono ?_⟩⟩
  rintro _ _ ⟨rfl, rfl⟩
  exact ⟨_, rfl, rfl, rfl⟩

theorem o_chunk (h : (Ded tb L nx).on w S) (id : Int) : Calls P F.«pool_chunk» ⟨[ptr tb, .int .u32 id]⟩ w fun e w' =>
    e = .returned (.tuple ⟨[.agg ⟨[.int .u32 id, .int .i64 (oBlock (getC L id)), .int .i64 (oRefs (getC L id)), .int .i64 ((oData (getC L id)).size : Int)]⟩, .bool (getC L id).isSome]⟩) ∧ Keep NoB w w' := by
  refine ok_pool_chunk ?_
  unfold V_pool_chunk
  refine (Own.nil w).al fun u0 B => ?_
  have h0 : (Ded tb L nx).on u0 S := (Ded tb L nx).loc h (fun g hg => B.keep.block g ((Ded tb L nx).lt h hg) fun h => h) B.size
  refine (t_Get h0 id).mono ?_
  rintro _ u1 ⟨rfl, k⟩
  have B := B.quiet k
  exact ⟨_, _, _, _, rfl, B.st fun u B => B.st fun u B => B.st fun u B => B.st fun u B => ⟨_, _, _, _, ⟨B.rd (i := 0) rfl, B.rd (i := 1) rfl, B.rd (i := 2) rfl, B.rd (i := 3) rfl, trivial⟩, rfl, B.keep⟩⟩

theorem o_Chunks (h : (Pol pb lb L nx f).on w S) : Calls P F.«pool_Pool_Chunks» ⟨[ptr pb]⟩ w fun e w' => ∃ a c, e = .returned (.slice a L.length c) ∧ Own w S [Pol pb lb L nx f, .sl T.«pool_Chunk» 4 a L.length c (L.flatMap encP)] w' := by
  refine ok_pool_Pool_Chunks ?_
  unfold V_pool_Pool_Chunks
  obtain ⟨tb, fb, H⟩ := Pol.op (Own.of1 h)
  refine H.al fun u0 H => H.al fun u1 H => ⟨_, H.rd0 rfl, (o_is H.ob).mono ?_⟩
  rintro _ _ ⟨rfl, rfl⟩
  refine ⟨_, rfl, bcase_mk (fun h => by cases h) fun _ => ⟨some ⟨pb, 0, none⟩, H.rd0 rfl, _, H.rd (i := 1) rfl, (t_All u1 _).mono ?_⟩⟩
  rintro _ u2 ⟨rfl, h2⟩
  have H := H.add h2
  refine ⟨_, rfl, ?_⟩
  show bW true _
  intro y rec rounds
  have H := H.push2 (o := .deferred (some [])) (o' := rec .ready none)
  obtain ⟨St, ht⟩ := H.has i1
  have hwf := (Ded.wf ht)
  let X : Option Addr → Nat → Nat → LoopState → List Asrt := fun a c i s => [.sl T.«pool_Chunk» 4 a i c ((L.take i).flatMap encP), At pb (PolO lb tb fb), Ded tb L nx, Spc fb f, At w.heap.size (.cells ⟨[ptr pb]⟩ T.«p_pool_Pool»), At u0.heap.size (.cells ⟨[.slice a i c]⟩ T.«l_pool_Chunk»), At u1.heap.size (.cells ⟨[ptr tb]⟩ T.«p_dedup_Table»), At u2.heap.size (.deferred (some [])), At (u2.heap.size + 1) (rec s none)]
  have H0 : Own w S (X none 0 0 .ready) ((u2.alloc (.deferred (some []))).alloc (rec .ready none)) := Own.nilRow T.«pool_Chunk» 4 H
  obtain ⟨S1, h1, back⟩ := H0.all
  refine (t_All1 (b := tb) (L := L) (nx := nx) (I := fun i => .ex fun ac : Option Addr × Nat => .sep (X ac.1 ac.2 i .ready)) (Stop := .pure False .emp) (S := S1) (w := (u2.alloc (.deferred (some []))).alloc (rec .ready none)) ⟨(none, 0), h1⟩ ht H.ob fun i c hi u Q hu _ _ => ?_).mono ?_
  · obtain ⟨⟨a, c'⟩, H⟩ := (Own.of1 hu).opEx
    have H := H.opSep
    have hil : i < L.length := (List.getElem?_eq_some_iff.1 hi).1
    refine rounds _ _ u H.ob ⟨H.ob, H.po fun v H => ⟨some ⟨pb, 0, none⟩, H.rd0 rfl, _, H.rd (i := 1) rfl, ?_⟩⟩
    obtain ⟨Sd, hd⟩ := H.has i2
    refine (o_chunk hd c.id).mono ?_
    rintro _ v1 ⟨rfl, k⟩
    have H := H.quiet k
    have hg := getC_mem hwf.1 (List.mem_iff_getElem?.2 ⟨i, hi⟩)
    rw [hg]
    refine ⟨_, _, _, _, _, rfl, H.al fun v H => H.st fun v H => H.st fun v H => H.st fun v H => H.st fun v H => ⟨_, _, _, H.rd0 rfl, _, _, _, _, ⟨H.rd (i := 0) rfl, H.rd (i := 1) rfl, H.rd (i := 2) rfl, H.rd (i := 3) rfl, trivial⟩, ?_⟩⟩
    refine H.app1 (ty := T.«l_pool_Chunk») polOk (v := .agg ⟨encP c⟩) rfl (fun u hu => by
      have hu : u ∈ encP c := hu
      simp only [encP, List.mem_cons, List.not_mem_nil, or_false] at hu
      rcases hu with rfl | rfl | rfl | rfl <;> rfl) (by have := hwf.2; omega) (by omega) fun a2 c2 v H => H.st fun v H => ⟨H.ob, .inl ⟨rfl, ?_⟩⟩
    have H := H.po' (b := u2.heap.size + 1) (o := rec .ready none)
    have et : (L.take i).flatMap encP ++ (Value.agg ⟨encP c⟩).cells.toList = (L.take (i + 1)).flatMap encP := by
      rw [List.take_add_one, hi]; simp [List.flatMap_append, Value.cells]
    rw [et] at H
    exact Own.mkEx (a2, c2) (Own.mkSep (l1 := X a2 c2 (i + 1) .ready) (l := []) (H.front9))
  · rintro _ w' ⟨rfl, hE | hS⟩
    · obtain ⟨⟨a, c⟩, H⟩ := hE.opEx
      have H := H.opSep
      obtain ⟨S2, hs2, back2⟩ := H.all
      have H : Own w S (X a c L.length .ready) w' := back _ _ (H.front9)
      refine ⟨⟨_, rfl⟩, .inl ⟨.ready, by decide, H.ob, H.po fun v H => ⟨_, _, _, H.rd0 rfl, H.st fun v H => ⟨H.ob, H.po fun v H => ⟨_, _, _, H.rd0 rfl, a, c, rfl, ?_⟩⟩⟩⟩⟩
      rw [List.take_length] at H
      have H := (Pol.cl (tb := tb) (fb := fb) (H.front4.perm (List.perm_append_comm (l₁ := [_]) (l₂ := [_, _, _]))))
      exact H
    · exact absurd hS.opPure.1 id

theorem o_Begin (h : (Pol pb lb L nx f).on w S) (hl : L.length < 1000) : Calls P F.«pool_Pool_Begin» ⟨[ptr pb]⟩ w fun e w' => ∃ qb tq fq, e = .returned (ptr qb) ∧ Own w NoB [At qb (.cells ⟨[ptr pb, ptr tq, ptr fq, .bool false]⟩ T.«pool_Plan»), Ded tq L nx, Spc fq f] w' := by
  refine ok_pool_Pool_Begin ?_
  unfold V_pool_Pool_Begin
  obtain ⟨tb, fb, H⟩ := Pol.op (Own.of1 h)
  refine (o_is H.ob).mono ?_
  rintro _ _ ⟨rfl, rfl⟩
  refine ⟨_, rfl, bcase_mk (fun h => by cases h) fun _ wd hd => ?_⟩
  have H := H.drew hd
  refine ⟨_, H.rd (i := 1) rfl, _, H.rd (i := 2) rfl, ?_⟩
  obtain ⟨St, ht⟩ := H.has i1
  refine (t_Copy ht hl).mono ?_
  rintro _ w1 ⟨tq, rfl, h1⟩
  have H := H.quiet h1.keep
  refine ⟨_, rfl, ⟨_, H.rd (i := 2) rfl, rfl⟩, ?_⟩
  obtain ⟨Sf, hf⟩ := H.has i2
  refine (p_Copy hf).mono ?_
  rintro _ w2 ⟨fq, rfl, h2⟩
  have B := ((Own.nil w).drew hd).add h1 |>.add h2
  refine ⟨_, rfl, B.al fun u B => ⟨_, tq, fq, rfl, ?_⟩⟩
  exact B.perm (List.perm_append_comm (l₁ := [Ded tq L nx, Spc fq f]) (l₂ := [_]))
end
end Go.Proofs.YtgepmlgkeljelaaGreat.Vc
