/- Plans of a pool: Done. -/
import Derived.Test.YtgepmlgkeljelaaGreatPoPlan2
namespace Go.Proofs.YtgepmlgkeljelaaGreat.Vc
open Go Go.Proofs

section
variable {w W0 : World} {S S0 : Foot} {qb pb tq fq : Nat} {s : PS} {l : List Asrt}

theorem q_Done_over (h : w.heap[qb]? = some (PlnO pb tq fq true)) : Calls P F.«pool_Plan_Done» ⟨[ptr qb]⟩ w fun e w' => e = .returned (.int .i64 17) ∧ Keep NoB w w' := by
  refine ok_pool_Plan_Done ?_
  unfold V_pool_Plan_Done
  refine (Own.nil w).al fun u0 B => ⟨some ⟨qb, 0, none⟩, B.rd0 rfl, (q_may (B.keep.at_ h fun h => h)).mono ?_⟩
  rintro _ _ ⟨rfl, rfl⟩
  exact ⟨_, rfl, bcase_mk (fun _ => ⟨rfl, B.keep⟩) fun h => by cases h⟩

/-- The blocks of chunks. -/
def doneF (L : List Chk) : Nat → Bool := L.foldl (fun f c => (useR f c.block).2) fun _ => false

theorem q_Done {lb db tp fp : Nat} {ls : LineS} (h : Sep [At qb (PlnO pb tq fq false), Ded tq s.L s.nx, At pb (PolO lb tp fp), Lin lb db ls] w S) :
    Calls P F.«pool_Plan_Done» ⟨[ptr qb]⟩ w fun e w' => e = .returned (.int .i64 0) ∧ Own w S [At qb (PlnO pb tq fq true), Pol pb lb s.L s.nx (doneF s.L), Lin lb db ls] w' := by
  refine ok_pool_Plan_Done ?_
  unfold V_pool_Plan_Done
  refine (Own.of h).al fun u0 H => ⟨some ⟨qb, 0, none⟩, H.rd0 rfl, (q_may H.ob).mono ?_⟩
  rintro _ _ ⟨rfl, rfl⟩
  refine ⟨_, rfl, bcase_mk (fun h => by cases h) fun _ => ⟨some ⟨qb, 0, none⟩, H.rd0 rfl, H.st1 fun u1 H => ⟨some ⟨qb, 0, none⟩, H.rd0 rfl, some ⟨pb, 0, none⟩, H.rd (i := 0) rfl, some ⟨lb, 0, none⟩, H.rd (i := 0) rfl, ?_⟩⟩⟩
  obtain ⟨Sl1, hl⟩ := H.has i3
  refine (l_Device hl).mono ?_
  rintro _ _ ⟨rfl, rfl⟩
  obtain ⟨a, c, ho, _, S3, h3, _⟩ := Lin.dev hl
  obtain ⟨_, g, c2, H2⟩ := Dev.op (Own.of1 h3)
  refine ⟨_, rfl, (d_Blocks H2.ob).mono ?_⟩
  rintro _ _ ⟨rfl, rfl⟩
  have e1 : IntKind.wrap .i64 (Int.tdiv (256 : Int) 2) = 128 := by decide
  refine ⟨_, rfl, ?_⟩
  rw [e1]
  refine ⟨by decide, (p_New u1).mono ?_⟩
  rintro _ u2 ⟨fb, rfl, h2⟩
  have H := H.add h2
  refine ⟨_, rfl, H.al fun u3 H => H.st fun u4 H => ⟨some ⟨qb, 0, none⟩, H.rd0 rfl, some ⟨tq, 0, none⟩, H.rd (i := 1) rfl, (t_All u4 _).mono ?_⟩⟩
  rintro _ u5 ⟨rfl, h5⟩
  have H := H.add h5
  refine ⟨_, rfl, ?_⟩
  show bW true _
  intro y rec rounds
  have H := H.push2 (o := .deferred (some [])) (o' := rec .ready none)
  let X : Nat → LoopState → List Asrt := fun i st => [At qb (PlnO pb tq fq true), Ded tq s.L s.nx, At pb (PolO lb tp fp), Lin lb db ls, At w.heap.size (.cells ⟨[ptr qb]⟩ T.«p_pool_Plan»), Spc fb (doneF (s.L.take i)), At u2.heap.size (.cells ⟨[ptr fb]⟩ T.«p_space_Space»), At u4.heap.size (.cells ⟨[ptr tq]⟩ T.«p_dedup_Table»), At u5.heap.size (.deferred (some [])), At (u5.heap.size + 1) (rec st none)]
  have H : Own w S (X 0 .ready) ((u5.alloc (.deferred (some []))).alloc (rec .ready none)) := H
  obtain ⟨Sx, hx, hxb, back⟩ := H.allB
  obtain ⟨St, ht⟩ := H.has i1
  have hwf := Ded.wf ht
  refine (t_All1 (b := tq) (L := s.L) (nx := s.nx) (I := fun i => .sep (X i .ready)) (Stop := .pure False .emp) (S := Sx) (w := (u5.alloc (.deferred (some []))).alloc (rec .ready none)) hx ht H.ob fun i c hi v Q hv _ _ => ?_).mono ?_
  · have H := (Own.of1 hv).opSep
    have hcm : c ∈ s.L := List.mem_iff_getElem?.2 ⟨i, hi⟩
    refine rounds _ _ v H.ob ⟨H.ob, H.po fun v1 H => ⟨some ⟨qb, 0, none⟩, H.rd0 rfl, some ⟨tq, 0, none⟩, H.rd (i := 1) rfl, ?_⟩⟩
    obtain ⟨S4, h4⟩ := H.has i1
    refine (t_Get h4 c.id).mono ?_
    rintro _ v2 ⟨rfl, k⟩
    have H := H.quiet k
    rw [getC_mem hwf.1 hcm]
    refine ⟨_, _, _, _, rfl, some ⟨fb, 0, none⟩, H.rd0 rfl, ?_⟩
    obtain ⟨S5, h5, back5⟩ := H.foc5
    refine (p_Use h5 c.block).mono ?_
    rintro _ v3 ⟨rfl, h6⟩
    have H := back5 _ _ _ h6
    refine ⟨_, rfl, H.ob, .inl ⟨rfl, ?_⟩⟩
    have H := H.po' (b := u5.heap.size + 1) (o := rec .ready none)
    have e2 : doneF (s.L.take (i + 1)) = (useR (doneF (s.L.take i)) c.block).2 := by
      unfold doneF
      rw [List.take_add_one, hi, List.foldl_append]; rfl
    refine Own.mkSep (l1 := X (i + 1) .ready) (l := []) ?_
    show Own v Q [_, _, _, _, _, Spc fb (doneF (s.L.take (i + 1))), _, _, _, _] _
    rw [e2]
    exact H.front10
  · rintro _ w' ⟨rfl, hE | hS⟩
    · have H : Own w S (X s.L.length .ready) w' := back _ _ hE.opSep.front10
      refine ⟨⟨_, rfl⟩, .inl ⟨.ready, by decide, H.ob, H.po fun v H wd hd => ?_⟩⟩
      have H := H.drew hd
      refine ⟨some ⟨qb, 0, none⟩, H.rd0 rfl, some ⟨pb, 0, none⟩, H.rd (i := 0) rfl, some ⟨qb, 0, none⟩, H.rd0 rfl, some ⟨pb, 0, none⟩, H.rd (i := 0) rfl, some ⟨qb, 0, none⟩, H.rd0 rfl, some ⟨tq, 0, none⟩, H.rd (i := 1) rfl, some ⟨fb, 0, none⟩, H.rd0 rfl, H.st1 fun v1 H => ⟨⟨some ⟨fb, 0, none⟩, H.rd0 rfl, rfl⟩, H.st1 fun v2 H => ⟨H.ob, H.po fun v3 H => ⟨rfl, ?_⟩⟩⟩⟩
      have H := (H.up5.front6)
      rw [List.take_length] at H
      -- [Spc, qb, Ded, pb, Lin, box]
      have H := H.rid5.perm (l' := [At pb (PolO lb tq fb), Ded tq s.L s.nx, Spc fb (doneF s.L), At qb (PlnO pb tq fq true), Lin lb db ls]) (by
        refine (List.perm_append_comm (l₁ := [Spc fb (doneF s.L), At qb (PlnO pb tq fq true), Ded tq s.L s.nx]) (l₂ := [At pb (PolO lb tq fb), Lin lb db ls])).trans (List.Perm.cons _ ?_)
        refine (List.perm_append_comm (l₁ := [Lin lb db ls, Spc fb (doneF s.L), At qb (PlnO pb tq fq true)]) (l₂ := [Ded tq s.L s.nx])).trans (List.Perm.cons _ ?_)
        exact (List.perm_append_comm (l₁ := [Lin lb db ls]) (l₂ := [Spc fb (doneF s.L), At qb (PlnO pb tq fq true)])))
      exact (Pol.cl H).up1
    · exact absurd hS.opPure.1 id
end
end Go.Proofs.YtgepmlgkeljelaaGreat.Vc
