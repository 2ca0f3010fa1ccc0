/- Plans of a pool: each, Hold, Release, Next, Write, Done. -/
import Derived.Test.YtgepmlgkeljelaaGreatPoPlan
namespace Go.Proofs.YtgepmlgkeljelaaGreat.Vc
open Go Go.Proofs

section
variable {w W0 : World} {S S0 : Foot} {qb pb tq fq : Nat} {s : PS} {l : List Asrt}

def eachR (g : PS → Int → Int × PS) : PS → List Int → Int × PS
  | s, [] => (0, s)
  | s, id :: ids => if (g s id).1 ≠ 0 then g s id else eachR g (g s id).2 ids

theorem q_each {g : PS → Int → Int × PS} {fn : Fn} {first caps : Array Value} (h : Sep (PQ qb pb tq fq s) w S) {ia : Option Addr} {ic : Nat} {ids : List Int} (hi : Src w 1 ia ids.length ic (ids.map u32v)) (hsep : ∀ a, ia = some a → ¬ S a.block) (hil : ids.length ≤ 1000000)
    (hia : ∀ a, ia = some a → a.block < w.heap.size)
    (hd : ∀ (s : PS) (id : Int) (u : World) (Q : Foot), Sep (PQ qb pb tq fq s) u Q → Keep S w u → callV P Bd (.func fn first caps) [.int .u32 id] u fun e u' => e = .returned (.int .i64 (g s id).1) ∧ Own u Q (PQ qb pb tq fq (g s id).2) u') :
    Calls P F.«pool_Plan_each» ⟨[ptr qb, .slice ia ids.length ic, .func fn first caps]⟩ w fun e w' => e = .returned (.int .i64 (eachR g s ids).1) ∧ Own w S [At qb (PlnO pb tq fq ((eachR g s ids).1 != 0)), Ded tq (eachR g s ids).2.L (eachR g s ids).2.nx, Spc fq (eachR g s ids).2.f] w' := by
  refine ok_pool_Plan_each ?_
  unfold V_pool_Plan_each
  refine alloc_step fun u0 n0 => ?_
  refine oneW_fn (alloc_step fun u1 n1 => ?_)
  have k1 : Keep NoB w u1 := n0.keep.trans n1.keep fun _ _ h => h
  have hlt : ∀ g, S g → g < w.heap.size := fun g hg => Sep.lt h hg
  have h1 : Sep (PQ qb pb tq fq s) u1 S := h.loc (fun g hg => k1.block g (hlt g hg) fun h => h) k1.size
  have z0 := n0.size
  have box0 : u1.heap[w.heap.size]? = _ := n1.keep.at_ n0.at_ fun h => h
  have box1 := n1.at_
  refine (q_try (A := .sep [Ded tq s.L s.nx, Spc fq s.f]) (B := fun n => .pure (n = (eachR g s ids).1) (.sep [Ded tq (eachR g s ids).2.L (eachR g s ids).2.nx, Spc fq (eachR g s ids).2.f])) h1.grp fun u Q hu hQ k => callV_fn (by kernel_rfl) ?_).mono ?_
  · refine ok_pool_Plan_each_1 ?_
    unfold V_pool_Plan_each_1
    have nS : ∀ b, b < u1.heap.size → w.heap.size ≤ b → ¬ S b := fun b _ hb hs => by have := hlt b hs; omega
    have nQ : ∀ b, b < u1.heap.size → ¬ S b → ¬ Q b := fun b hb hs hq => (hQ b hq).elim hs fun h => by omega
    have b0 := k.at_ box0 (nS _ (by have := n1.size; omega) (Nat.le_refl _))
    have b1 := k.at_ box1 (nS _ (by have := n1.size; omega) (by omega))
    have hi2 := (hi.keep k1 fun _ _ h => h).keep k hsep
    refine ⟨_, _, _, cell_at0 b0 rfl, fun p u' => ∃ (i : Nat) (s' : PS), p.1 = (i : Int) ∧ i ≤ ids.length ∧ eachR g s ids = eachR g s' (ids.drop i) ∧ Own u Q (PQ qb pb tq fq s') u', fun p _ => ids.length - p.1.toNat, ⟨0, s, rfl, Nat.zero_le _, rfl, (Own.of hu).grp⟩, ?_⟩
    rintro _ n v ⟨i, s', hn, hil2, he, H⟩
    have hn : n = (i : Int) := hn
    subst hn
    generalize hbb : decide ((i : Int) < ((ids.length : Nat) : Int)) = bb
    refine bcase_mk (fun hlt2 => ?_) fun hge => ?_
    · have hlt2 : i < ids.length := by have := of_decide_eq_true (hbb.trans hlt2); omega
      have hdr : ids.drop i = ids[i] :: ids.drop (i + 1) := List.drop_eq_getElem_cons hlt2
      rw [hdr] at he
      have hi3 : Src v 1 ia ids.length ic (ids.map u32v) := hi2.keep H.keep fun a ha => nQ _ (by have := hia a ha; have := k1.size; omega) (hsep a ha)
      have c1 := H.keep.at_ b1 (nQ _ (by have := n1.size; omega) (nS _ (by have := n1.size; omega) (by omega)))
      rcases hi3.2 with ⟨_, h0, _⟩ | ⟨a, rfl, hr⟩
      · omega
      · refine ⟨⟨by omega, by omega⟩, ids[i], ?_, .func fn first caps, cell_at0 c1 rfl, ?_⟩
        · rw [Int.toNat_natCast, Nat.mul_one]
          exact hr i _ (by simp [List.getElem?_eq_getElem hlt2])
        · obtain ⟨Q1, hQ1, back⟩ := H.all
          have kv : Keep S w v := (k1.mono fun _ _ h => h.elim).trans (k.trans H.keep fun b hb hq => (hQ b hq).resolve_right (by omega)) fun _ _ h => h
          refine callV.mono (hd s' ids[i] v Q1 hQ1 kv) ?_
          rintro _ v2 ⟨rfl, h2⟩
          have H := back _ _ h2
          have w1 : IntKind.wrap .i64 ((i : Int) + 1) = ((i + 1 : Nat) : Int) := by rw [wrap64 (by omega) (by omega)]; omega
          rw [w1]
          refine ⟨_, rfl, bcase_mk (fun hne => ⟨_, rfl, ?_⟩) fun hz => ⟨⟨i + 1, (g s' ids[i]).2, rfl, by omega, ?_, H⟩, ?_⟩⟩
          · have hne : (g s' ids[i]).1 ≠ 0 := by simpa using hne
            have he : eachR g s ids = g s' ids[i] := by rw [he]; unfold eachR; rw [if_pos hne]
            rw [he]
            exact Own.dn1 (Own.mkPure rfl (Own.up1 (Own.grp' H)))
          · have hz : (g s' ids[i]).1 = 0 := by simpa using hz
            rw [he]; conv => lhs; unfold eachR
            rw [if_neg (by simpa using hz)]
          · show ids.length - ((i + 1 : Nat) : Int).toNat < ids.length - ((i : Nat) : Int).toNat
            omega
    · have hie : i = ids.length := by have := of_decide_eq_false (hbb.trans hge); omega
      rw [hie, List.drop_length] at he
      have he : eachR g s ids = (0, s') := he
      rw [he]
      exact ⟨0, rfl, Own.dn1 (Own.mkPure rfl (Own.up1 (Own.grp' H)))⟩
  · rintro _ w2 ⟨n, rfl, H⟩
    obtain ⟨hn, H⟩ := H.up1.opPure
    subst hn
    exact ⟨_, rfl, rfl, (H.dn1.grp).since k1⟩

def holdS (s : PS) (id : Int) : Int × PS := ((holdR s.L id).1, { s with L := (holdR s.L id).2 })
def relS (s : PS) (id : Int) : Int × PS := ((releaseR s.L id).1.2, { s with L := (releaseR s.L id).2 })

theorem q_Hold (h : Sep (PQ qb pb tq fq s) w S) {ia : Option Addr} {ic : Nat} {ids : List Int} (hi : Src w 1 ia ids.length ic (ids.map u32v)) (hsep : ∀ a, ia = some a → ¬ S a.block) (hil : ids.length ≤ 1000000)
    (hia : ∀ a, ia = some a → a.block < w.heap.size) :
    Calls P F.«pool_Plan_Hold» ⟨[ptr qb, .slice ia ids.length ic]⟩ w fun e w' => e = .returned (.int .i64 (eachR holdS s ids).1) ∧ Own w S [At qb (PlnO pb tq fq ((eachR holdS s ids).1 != 0)), Ded tq (eachR holdS s ids).2.L (eachR holdS s ids).2.nx, Spc fq (eachR holdS s ids).2.f] w' := by
  refine ok_pool_Plan_Hold ?_
  unfold V_pool_Plan_Hold
  refine alloc_step fun u0 n0 => ⟨some ⟨qb, 0, none⟩, cell_at0 n0.at_ rfl, ?_⟩
  have hlt : ∀ g, S g → g < w.heap.size := fun g hg => Sep.lt h hg
  have h1 : Sep (PQ qb pb tq fq s) u0 S := h.loc (fun g hg => n0.keep.block g (hlt g hg) fun h => h) n0.keep.size
  refine (q_each (g := holdS) h1 (hi.keep n0.keep fun _ _ h => h) hsep hil (fun a ha => by have := hia a ha; have := n0.size; omega) fun s' id u Q hu k => callV_fn (by kernel_rfl) ?_).mono ?_
  · refine ok_pool_Plan_Hold_1 ?_
    unfold V_pool_Plan_Hold_1
    have H := Own.of hu
    refine ⟨some ⟨qb, 0, none⟩, cell_at0 (k.at_ n0.at_ fun hs => by have := hlt _ hs; omega) rfl, some ⟨tq, 0, none⟩, H.rd (i := 1) rfl, ?_⟩
    obtain ⟨S1, ht, back⟩ := H.foc1
    refine (t_Hold ht id).mono ?_
    rintro _ v ⟨rfl, h2⟩
    exact ⟨_, rfl, rfl, back _ _ _ h2⟩
  · rintro _ w2 ⟨rfl, H⟩
    exact ⟨_, rfl, rfl, H.since n0.keep⟩

theorem q_Release (h : Sep (PQ qb pb tq fq s) w S) {ia : Option Addr} {ic : Nat} {ids : List Int} (hi : Src w 1 ia ids.length ic (ids.map u32v)) (hsep : ∀ a, ia = some a → ¬ S a.block) (hil : ids.length ≤ 1000000)
    (hia : ∀ a, ia = some a → a.block < w.heap.size) :
    Calls P F.«pool_Plan_Release» ⟨[ptr qb, .slice ia ids.length ic]⟩ w fun e w' => e = .returned (.int .i64 (eachR relS s ids).1) ∧ Own w S [At qb (PlnO pb tq fq ((eachR relS s ids).1 != 0)), Ded tq (eachR relS s ids).2.L (eachR relS s ids).2.nx, Spc fq (eachR relS s ids).2.f] w' := by
  refine ok_pool_Plan_Release ?_
  unfold V_pool_Plan_Release
  refine alloc_step fun u0 n0 => ⟨some ⟨qb, 0, none⟩, cell_at0 n0.at_ rfl, ?_⟩
  have hlt : ∀ g, S g → g < w.heap.size := fun g hg => Sep.lt h hg
  have h1 : Sep (PQ qb pb tq fq s) u0 S := h.loc (fun g hg => n0.keep.block g (hlt g hg) fun h => h) n0.keep.size
  refine (q_each (g := relS) h1 (hi.keep n0.keep fun _ _ h => h) hsep hil (fun a ha => by have := hia a ha; have := n0.size; omega) fun s' id u Q hu k => callV_fn (by kernel_rfl) ?_).mono ?_
  · refine ok_pool_Plan_Release_1 ?_
    unfold V_pool_Plan_Release_1
    have H := Own.of hu
    refine ⟨some ⟨qb, 0, none⟩, cell_at0 (k.at_ n0.at_ fun hs => by have := hlt _ hs; omega) rfl, some ⟨tq, 0, none⟩, H.rd (i := 1) rfl, ?_⟩
    obtain ⟨S1, ht, back⟩ := H.foc1
    refine (t_Release ht id).mono ?_
    rintro _ v ⟨rfl, h2⟩
    exact ⟨_, _, rfl, rfl, back _ _ _ h2⟩
  · rintro _ w2 ⟨rfl, H⟩
    exact ⟨_, rfl, rfl, H.since n0.keep⟩

theorem q_Next (h : Sep (PQ qb pb tq fq s) w S) : Calls P F.«pool_Plan_Next» ⟨[ptr qb]⟩ w fun e w' => e = .returned (.int .u32 s.nx) ∧ w = w' := by
  refine ok_pool_Plan_Next ?_
  unfold V_pool_Plan_Next
  have H := Own.of h
  refine (q_may H.ob).mono ?_
  rintro _ _ ⟨rfl, rfl⟩
  obtain ⟨St, ht⟩ := H.has i1
  refine ⟨_, rfl, bcase_mk (fun h => by cases h) fun _ => ⟨some ⟨tq, 0, none⟩, H.rd (i := 1) rfl, (t_Next ht).mono ?_⟩⟩
  rintro _ _ ⟨rfl, rfl⟩
  exact ⟨_, rfl, rfl, rfl⟩
theorem q_Next_over (h : w.heap[qb]? = some (PlnO pb tq fq true)) : Calls P F.«pool_Plan_Next» ⟨[ptr qb]⟩ w fun e w' => e = .returned (.int .u32 0) ∧ w = w' := by
  refine ok_pool_Plan_Next ?_
  unfold V_pool_Plan_Next
  refine (q_may h).mono ?_
  rintro _ _ ⟨rfl, rfl⟩
  exact ⟨_, rfl, bcase_mk (fun _ => ⟨rfl, rfl⟩) fun h => by cases h⟩

/-- What a plan's Write does to the line. -/
def wrAll (L0 : List Chk) : List Chk → LineS → Int × LineS
  | [], ls => lFlush ls
  | c :: L, ls => if (getC L0 c.id).isSome then wrAll L0 L ls else if (lWrite ls c.block c.data).1 ≠ 0 then lWrite ls c.block c.data else wrAll L0 L (lWrite ls c.block c.data).2

theorem q_Write {lb db tp fp : Nat} {ls : LineS} {L0 : List Chk} {nx0 : Int} {E : Asrt} (h : Sep [At qb (PlnO pb tq fq false), Ded tq s.L s.nx, At pb (PolO lb tp fp), Ded tp L0 nx0, Lin lb db ls, E] w S) :
    Calls P F.«pool_Plan_Write» ⟨[ptr qb]⟩ w fun e w' => e = .returned (.int .i64 (wrAll L0 s.L ls).1) ∧ Own w S [At qb (PlnO pb tq fq ((wrAll L0 s.L ls).1 != 0)), Ded tq s.L s.nx, At pb (PolO lb tp fp), Ded tp L0 nx0, Lin lb db (wrAll L0 s.L ls).2, E] w' := by
  refine ok_pool_Plan_Write ?_
  unfold V_pool_Plan_Write
  refine alloc_step fun u0 n0 => ⟨some ⟨qb, 0, none⟩, cell_at0 n0.at_ rfl, ?_⟩
  have hlt : ∀ g, S g → g < w.heap.size := fun g hg => Sep.lt h hg
  have h1 : Sep [At qb (PlnO pb tq fq false), Ded tq s.L s.nx, At pb (PolO lb tp fp), Ded tp L0 nx0, Lin lb db ls, E] u0 S := h.loc (fun g hg => n0.keep.block g (hlt g hg) fun h => h) n0.keep.size
  refine (q_try (A := .sep [Ded tq s.L s.nx, At pb (PolO lb tp fp), Ded tp L0 nx0, Lin lb db ls, E]) (B := fun n => .pure (n = (wrAll L0 s.L ls).1) (.sep [Ded tq s.L s.nx, At pb (PolO lb tp fp), Ded tp L0 nx0, Lin lb db (wrAll L0 s.L ls).2, E])) h1.grp fun u Q hu hQ k => callV_fn (by kernel_rfl) ?_).mono ?_
  · refine ok_pool_Plan_Write_1 ?_
    unfold V_pool_Plan_Write_1
    have b0 := k.at_ n0.at_ fun hs => by have := hlt _ hs; omega
    have nQ0 : ¬ Q w.heap.size := fun hq => (hQ _ hq).elim (fun hs => by have := hlt _ hs; omega) fun h => by have := n0.size; omega
    have H := ((Own.of hu).grp)
    refine H.al fun u1 H => ⟨some ⟨qb, 0, none⟩, cell_at0 (H.keep.at_ b0 nQ0) rfl, some ⟨tq, 0, none⟩, H.rd (i := 1) rfl, (t_All u1 _).mono ?_⟩
    rintro _ u2 ⟨rfl, h2⟩
    have H := H.add h2
    refine ⟨_, rfl, ?_⟩
    show bW true _
    intro y rec rounds
    have H := H.push2 (o := .deferred (some [])) (o' := rec .ready none)
    let X : LineS → Int → LoopState → Option Code → List Asrt := fun ls n st cd => [At qb (PlnO pb tq fq false), Ded tq s.L s.nx, At pb (PolO lb tp fp), Ded tp L0 nx0, Lin lb db ls, E, At u.heap.size (.cells ⟨[.int .i64 n]⟩ T.«api_Errno»), At u1.heap.size (.cells ⟨[ptr tq]⟩ T.«p_dedup_Table»), At u2.heap.size (.deferred (some [])), At (u2.heap.size + 1) (rec st cd)]
    have H : Own u Q (X ls 0 .ready none) ((u2.alloc (.deferred (some []))).alloc (rec .ready none)) := H
    obtain ⟨Sx, hx, hxb, back⟩ := H.allB
    have hz0 := H.size
    have z0 := n0.size
    have zu : u0.heap.size ≤ u.heap.size := k.size
    have nX : ¬ Sx w.heap.size := fun hs => (hxb _ hs).elim nQ0 fun h => by omega
    have bx := H.keep.at_ b0 nQ0
    obtain ⟨St, ht⟩ := H.has i1
    have hwf := Ded.wf ht
    refine (t_All1 (b := tq) (L := s.L) (nx := s.nx) (I := fun i => .ex fun ls' : LineS => .pure (wrAll L0 s.L ls = wrAll L0 (s.L.drop i) ls') (.sep (X ls' 0 .ready none))) (Stop := .ex fun ls' : LineS => .ex fun n : Int => .pure (wrAll L0 s.L ls = (n, ls') ∧ n ≠ 0) (.sep (X ls' n .done (some .ret)))) (S := Sx) (w := (u2.alloc (.deferred (some []))).alloc (rec .ready none)) ⟨ls, rfl, hx⟩ ht H.ob fun i c hi v Q2 hv k2 hQ2 => ?_).mono ?_
    · obtain ⟨ls', H⟩ := (Own.of1 hv).opEx
      obtain ⟨he, H⟩ := H.opPure
      have H := H.opSep
      have hcm : c ∈ s.L := List.mem_iff_getElem?.2 ⟨i, hi⟩
      have hil : i < s.L.length := (List.getElem?_eq_some_iff.1 hi).1
      have hdr : s.L.drop i = c :: s.L.drop (i + 1) := by
        rw [List.drop_eq_getElem_cons hil]
        rw [List.getElem?_eq_getElem hil] at hi
        rw [Option.some.inj hi]
      rw [hdr] at he
      have n2 : ¬ Q2 w.heap.size := fun hs => (hQ2 _ hs).elim nX fun h => by omega
      have bv := k2.at_ bx nX
      have box : ∀ {l : List Asrt} {v' : World}, Own v Q2 l v' → v'.cell? ⟨w.heap.size, 0, none⟩ = some (ptr qb) := fun H => cell_at0 (H.keep.at_ bv n2) rfl
      refine rounds _ _ v H.ob ⟨H.ob, H.po fun v1 H => ⟨some ⟨qb, 0, none⟩, box H, some ⟨pb, 0, none⟩, H.rd (i := 0) rfl, some ⟨tp, 0, none⟩, H.rd (i := 1) rfl, ?_⟩⟩
      obtain ⟨S3, h3⟩ := H.has i3
      refine (o_chunk h3 c.id).mono ?_
      rintro _ v2 ⟨rfl, k3⟩
      have H := H.quiet k3
      refine ⟨_, _, _, _, _, rfl, H.al fun v H => H.st fun v H => H.st fun v H => H.st fun v H => H.st fun v4 H => ?_⟩
      refine bcase_mk (fun hs => ⟨H.ob, .inl ⟨rfl, ?_⟩⟩) fun hs => ⟨some ⟨qb, 0, none⟩, box H, some ⟨tq, 0, none⟩, H.rd (i := 1) rfl, ?_⟩
      · have H := H.po' (b := u2.heap.size + 1) (o := rec .ready none)
        refine Own.mkEx ls' (Own.mkPure ?_ (Own.mkSep (l1 := X ls' 0 .ready none) (l := []) H.front10))
        rw [he]; conv => lhs; unfold wrAll
        rw [if_pos hs]
      · obtain ⟨S4, h4⟩ := H.has i1
        refine (t_Get h4 c.id).mono ?_
        rintro _ v5 ⟨rfl, k5⟩
        have H := H.quiet k5
        rw [getC_mem hwf.1 hcm]
        refine ⟨_, _, _, _, rfl, some ⟨qb, 0, none⟩, box H, some ⟨pb, 0, none⟩, H.rd (i := 0) rfl, some ⟨lb, 0, none⟩, H.rd (i := 0) rfl, ?_⟩
        obtain ⟨S5, h5, back5⟩ := H.foc4
        refine (l_Write h5 c.block c.data).mono ?_
        rintro _ v6 ⟨rfl, h6⟩
        have H := back5 _ _ _ h6
        have hs' : ¬ (getC L0 c.id).isSome = true := by rw [hs]; simp
        refine ⟨_, rfl, bcase_mk (fun hne => H.st fun v7 H => ⟨H.ob, .inr ⟨rfl, ?_⟩⟩) fun hz => ⟨H.ob, .inl ⟨rfl, ?_⟩⟩⟩
        · have hne : (lWrite ls' c.block c.data).1 ≠ 0 := by simpa using hne
          have H := H.po' (b := u2.heap.size + 1) (o := rec .done (some .ret))
          refine Own.mkEx (lWrite ls' c.block c.data).2 (Own.mkEx (lWrite ls' c.block c.data).1 (Own.mkPure ⟨?_, hne⟩ (Own.mkSep (l1 := X (lWrite ls' c.block c.data).2 (lWrite ls' c.block c.data).1 .done (some .ret)) (l := []) H.front10)))
          rw [he]; unfold wrAll
          rw [if_neg hs', if_pos hne]
        · have hz : (lWrite ls' c.block c.data).1 = 0 := by simpa using hz
          have H := H.po' (b := u2.heap.size + 1) (o := rec .ready none)
          refine Own.mkEx (lWrite ls' c.block c.data).2 (Own.mkPure ?_ (Own.mkSep (l1 := X (lWrite ls' c.block c.data).2 0 .ready none) (l := []) H.front10))
          rw [he]; conv => lhs; unfold wrAll
          rw [if_neg hs', if_neg (by simpa using hz)]
    · rintro _ w' ⟨rfl, hE | hS⟩
      · have hE := hE
        obtain ⟨ls', H⟩ := hE.opEx
        obtain ⟨he, H⟩ := H.opPure
        rw [List.drop_length] at he
        have H : Own u Q (X ls' 0 .ready none) w' := by
          have H1 := H.opSep.front10
          exact back _ _ H1
        have box : ∀ {l : List Asrt} {v' : World}, Own u Q l v' → v'.cell? ⟨w.heap.size, 0, none⟩ = some (ptr qb) := fun H => cell_at0 (H.keep.at_ b0 nQ0) rfl
        refine ⟨⟨_, rfl⟩, .inl ⟨.ready, by decide, H.ob, H.po fun v H => ⟨some ⟨qb, 0, none⟩, box H, some ⟨pb, 0, none⟩, H.rd (i := 0) rfl, some ⟨lb, 0, none⟩, H.rd (i := 0) rfl, ?_⟩⟩⟩
        obtain ⟨S5, h5, back5⟩ := H.foc4
        refine (l_Flush h5).mono ?_
        rintro _ v6 ⟨rfl, h6⟩
        have H := back5 _ _ _ h6
        refine ⟨_, rfl, H.st fun v H => ⟨H.ob, H.po fun v H => ⟨_, H.rd0 rfl, _, rfl, ?_⟩⟩⟩
        have he : wrAll L0 s.L ls = lFlush ls' := he
        rw [he]
        exact Own.dn1 (Own.mkPure rfl (Own.up1 (Own.grp' H.front6)))
      · obtain ⟨ls', H⟩ := hS.opEx
        obtain ⟨n, H⟩ := H.opEx
        obtain ⟨⟨he, hne⟩, H⟩ := H.opPure
        have H : Own u Q (X ls' n .done (some .ret)) w' := back _ _ H.opSep.front10
        refine ⟨⟨_, rfl⟩, .inr ⟨.done, by decide, H.ob, H.po fun v H => ⟨H.ob, H.po fun v H => ⟨_, H.rd0 rfl, _, rfl, ?_⟩⟩⟩⟩
        rw [he]
        exact Own.dn1 (Own.mkPure rfl (Own.up1 (Own.grp' H.front6)))
  · rintro _ w2 ⟨n, rfl, H⟩
    obtain ⟨hn, H⟩ := H.up1.opPure
    subst hn
    exact ⟨_, rfl, rfl, (H.dn1.grp).since n0.keep⟩
end
end Go.Proofs.YtgepmlgkeljelaaGreat.Vc
