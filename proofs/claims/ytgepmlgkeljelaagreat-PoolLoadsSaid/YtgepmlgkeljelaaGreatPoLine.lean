/- The line to a device (package line), as a part of memory. -/
import Derived.Test.YtgepmlgkeljelaaGreatPoDev
namespace Go.Proofs.YtgepmlgkeljelaaGreat.Vc
open Go Go.Proofs

structure LineS where
  D : List Slot
  cut : Int
  cs : List Int
  acts : Int
  down : Bool
abbrev LineO (db : Nat) (a : Option Addr) (c : Nat) (s : LineS) : Obj := .cells ⟨[.pointer (some ⟨db, 0, none⟩), .int .i64 s.cut, .slice a s.cs.length c, .int .i64 s.acts, .bool s.down]⟩ T.«line_Line»
/-- The line at b, its device at db. -/
def Lin (b db : Nat) (s : LineS) : Asrt := .ex fun a : Option Addr => .ex fun c : Nat => .pure (s.cs.length ≤ 1000000) (.sep [At b (LineO db a c s), .sl T.«i64'» 1 a s.cs.length c (s.cs.map i64v), Dev db s.D])

def blowR (s : LineS) : LineS := if s.down then s else { s with down := true, D := (sett (crashM s.cs) s.D).1 }
def oddR (cs : List Int) : Bool := match cs with | [] => false | c :: _ => Int.tmod c 2 != 0
def actR (code : List Slot → Int) (f : List Slot → List Slot) (s : LineS) : Int × LineS :=
  if s.down then (8, s)
  else if s.acts ≠ s.cut then (code s.D, { s with acts := IntKind.wrap .i64 (s.acts + 1), D := f s.D })
  else (8, blowR (if oddR s.cs then { s with acts := IntKind.wrap .i64 (s.acts + 1), D := f s.D } else { s with acts := IntKind.wrap .i64 (s.acts + 1) }))
def lWrite (s : LineS) (k : Int) (d : ByteArray) : Int × LineS := actR (fun D => (wrD D k d).1) (fun D => (wrD D k d).2) s
def lFlush (s : LineS) : Int × LineS := actR (fun _ => 0) (fun D => (sett (fun _ => 64) D).1) s
def lRead (s : LineS) (k : Int) : ByteArray × Int := if s.down then (bs [], 8) else rdD s.D k

section
variable {w W0 : World} {S S0 : Foot} {b db : Nat} {s : LineS} {l : List Asrt}

theorem Lin.op (H : Own W0 S0 (Lin b db s :: l) w) : s.cs.length ≤ 1000000 ∧ ∃ a c, Own W0 S0 (At b (LineO db a c s) :: .sl T.«i64'» 1 a s.cs.length c (s.cs.map i64v) :: Dev db s.D :: l) w := by
  obtain ⟨a, H⟩ := H.opEx
  obtain ⟨c, H⟩ := H.opEx
  obtain ⟨hm, H⟩ := H.opPure
  exact ⟨hm, a, c, H.opSep⟩
theorem Lin.cl {a : Option Addr} {c : Nat} (hm : s.cs.length ≤ 1000000) (H : Own W0 S0 (At b (LineO db a c s) :: .sl T.«i64'» 1 a s.cs.length c (s.cs.map i64v) :: Dev db s.D :: l) w) : Own W0 S0 (Lin b db s :: l) w :=
  Own.mkEx a (Own.mkEx c (Own.mkPure hm (Own.mkSep H)))

theorem l_is {a : Option Addr} {c : Nat} (h : w.heap[b]? = some (LineO db a c s)) : Calls P F.«line_Line_is» ⟨[.pointer (some ⟨b, 0, none⟩)]⟩ w fun e w' => e = .returned (.bool true) ∧ w = w' := by
  refine ok_line_Line_is ?_
  unfold V_line_Line_is
  exact bcase_mk (fun _ => ⟨_, cell_at h rfl, rfl, rfl⟩) fun h => by cases h
theorem l_holds {a : Option Addr} {c : Nat} (h : w.heap[b]? = some (LineO db a c s)) : Calls P F.«line_Line_holds» ⟨[.pointer (some ⟨b, 0, none⟩)]⟩ w fun e w' => e = .returned (.int .i64 (if s.down then 8 else 0)) ∧ w = w' := by
  refine ok_line_Line_holds ?_
  unfold V_line_Line_holds
  refine (l_is h).mono ?_
  rintro _ _ ⟨rfl, rfl⟩
  refine ⟨_, rfl, bcase_mk (fun h => by cases h) fun _ => ⟨_, cell_at h rfl, bcase_mk (fun hd => ⟨by rw [hd]; rfl, rfl⟩) fun hd => ⟨by rw [hd]; rfl, rfl⟩⟩⟩
theorem l_last {a : Option Addr} {c : Nat} (h : w.heap[b]? = some (LineO db a c s)) (hc : Sl w T.«i64'» 1 a s.cs.length c (s.cs.map i64v)) : Calls P F.«line_Line_last» ⟨[.pointer (some ⟨b, 0, none⟩)]⟩ w fun e w' => e = .returned (.bool (oddR s.cs)) ∧ w = w' := by
  refine ok_line_Line_last ?_
  unfold V_line_Line_last
  refine ⟨_, _, _, cell_at h rfl, ?_⟩
  obtain ⟨D, cut, cs, acts, down⟩ := s
  cases cs with
  | nil => exact bcase_mk (fun h => by cases h) fun _ => ⟨rfl, rfl⟩
  | cons x cs =>
    generalize hbb : decide ((((x :: cs).length : Nat) : Int) > 0) = bb
    refine bcase_mk (fun _ => ⟨_, _, _, cell_at h rfl, ?_⟩) fun h => by
      have h := of_decide_eq_false (hbb.trans h); simp only [List.length_cons] at h; omega
    have hl : 0 < (x :: cs).length := by simp
    obtain ⟨g, rfl⟩ := hc.some hl
    refine ⟨⟨by omega, by simp only [List.length_cons]; omega⟩, x, ?_, by decide, rfl, rfl⟩
    exact (hc.cell (j := 0) rfl).2

theorem l_Blow (h : (Lin b db s).on w S) : Calls P F.«line_Line_Blow» ⟨[.pointer (some ⟨b, 0, none⟩)]⟩ w fun e w' => e = .returned (.tuple ⟨[]⟩) ∧ Own w S [Lin b db (blowR s)] w' := by
  refine ok_line_Line_Blow ?_
  unfold V_line_Line_Blow
  obtain ⟨hl, a, c, H⟩ := Lin.op (Own.of1 h)
  refine (l_holds H.ob).mono ?_
  rintro _ _ ⟨rfl, rfl⟩
  refine ⟨_, rfl, ?_⟩
  obtain ⟨D, cut, cs, acts, down⟩ := s
  cases down with
  | true => exact bcase_mk (fun h => by cases h) fun _ => ⟨rfl, Lin.cl hl H⟩
  | false =>
    refine bcase_mk (fun _ => H.st1 fun u H wd hd => ?_) fun h => by cases h
    have H := H.drew hd
    refine ⟨_, H.rd (i := 0) rfl, _, _, _, H.rd (i := 2) rfl, ?_⟩
    obtain ⟨S1, h1, S2, hs2, hdis, back⟩ : ∃ S1, (Dev db D).on wd S1 ∧ ∃ S2, (Asrt.sl T.«i64'» 1 a cs.length c (cs.map i64v)).on wd S2 ∧ (∀ g, S2 g → ¬ S1 g) ∧ ∀ B' w', Own wd S1 [B'] w' → Own w S [At b (LineO db a c ⟨D, cut, cs, acts, true⟩), .sl T.«i64'» 1 a cs.length c (cs.map i64v), B'] w' := by
      have H2 := H
      obtain ⟨⟨T0, ⟨T1, T2, t1, ⟨T3, T4, t3, ⟨T5, T6, t5, t6, td3, te3⟩, td2, te2⟩, td1, te1⟩, tb⟩, tk⟩ := H2
      obtain ⟨S1, h1, back⟩ := H.foc2
      refine ⟨T5, t5, T3, t3, fun g h3 h5 => td2 g h3 ((te3 g).2 (.inl h5)), fun B' w' ho => ?_⟩
      have H3 : Own w S ([Dev db D] ++ [At b (LineO db a c ⟨D, cut, cs, acts, true⟩), .sl T.«i64'» 1 a cs.length c (cs.map i64v)]) wd := H.up2
      obtain ⟨⟨S', h', hb'⟩, k'⟩ := ho
      have sep2 : ∀ g, (T1 g ∨ T3 g) → ¬ T5 g := fun g hg h5 => hg.elim (fun h => td1 g h ((te2 g).2 (.inr ((te3 g).2 (.inl h5))))) fun h => td2 g h ((te3 g).2 (.inl h5))
      have lt1 : ∀ g, T1 g → g < wd.heap.size := fun g hg => Asrt.lt _ t1 hg
      have lt3 : ∀ g, T3 g → g < wd.heap.size := fun g hg => Asrt.lt _ t3 hg
      obtain ⟨S5, S6, h5', h6', hd5, he5⟩ := h'
      refine ⟨⟨fun g => T1 g ∨ T3 g ∨ S' g, ⟨T1, fun g => T3 g ∨ S' g, Asrt.loc _ t1 (fun g hg => k'.block g (lt1 g hg) (sep2 g (.inl hg))) k'.size, ⟨T3, S', Asrt.loc _ t3 (fun g hg => k'.block g (lt3 g hg) (sep2 g (.inr hg))) k'.size, ⟨S5, S6, h5', h6', hd5, he5⟩, fun g hg hs => ?_, fun _ => Iff.rfl⟩, fun g hg hs => ?_, fun _ => Iff.rfl⟩, fun g hg => ?_⟩, tk.trans k' fun g hg h5 => ?_⟩
      · rcases hb' g hs with h | h
        · exact sep2 g (.inr hg) h
        · have := lt3 g hg; omega
      · rcases hs with hs | hs
        · exact td1 g hg ((te2 g).2 (.inl hs))
        · rcases hb' g hs with h | h
          · exact sep2 g (.inl hg) h
          · have := lt1 g hg; omega
      · have hz := tk.size
        rcases hg with hg | hg | hg
        · exact tb g ((te1 g).2 (.inl hg))
        · exact tb g ((te1 g).2 (.inr ((te2 g).2 (.inl hg))))
        · rcases hb' g hg with h | h
          · exact tb g ((te1 g).2 (.inr ((te2 g).2 (.inr ((te3 g).2 (.inl h))))))
          · exact .inr (by omega)
      · exact (tb g ((te1 g).2 (.inr ((te2 g).2 (.inr ((te3 g).2 (.inl h5))))))).resolve_right (by omega)
    refine (d_Crash h1 hs2.2 (fun g hg => hdis g ((hs2.1 g).2 hg)) hl).mono ?_
    rintro _ w' ⟨rfl, H⟩
    exact ⟨rfl, rfl, Lin.cl (s := ⟨(sett (crashM cs) D).1, cut, cs, acts, true⟩) hl (back _ _ H)⟩

theorem l_act (h : (Lin b db s).on w S) {dox : Value} {code : List Slot → Int} {f : List Slot → List Slot}
    (hd : ∀ (s' : LineS) (u : World), s'.D = s.D → s'.cs = s.cs → Own w S [Lin b db s'] u → callV P Bd dox [] u fun e u' => e = .returned (.int .i64 (code s'.D)) ∧ Own w S [Lin b db { s' with D := f s'.D }] u') :
    Calls P F.«line_Line_act» ⟨[.pointer (some ⟨b, 0, none⟩), dox]⟩ w fun e w' => e = .returned (.int .i64 (actR code f s).1) ∧ Own w S [Lin b db (actR code f s).2] w' := by
  refine ok_line_Line_act ?_
  unfold V_line_Line_act
  obtain ⟨hl, a, c, H⟩ := Lin.op (Own.of1 h)
  refine (l_holds H.ob).mono ?_
  rintro _ _ ⟨rfl, rfl⟩
  refine ⟨_, rfl, ?_⟩
  obtain ⟨D, cut, cs, acts, down⟩ := s
  cases down with
  | true => exact bcase_mk (fun _ => ⟨rfl, Lin.cl hl H⟩) fun h => by cases h
  | false =>
    refine bcase_mk (fun h => by cases h) fun _ => ⟨_, H.rd (i := 3) rfl, _, H.rd (i := 3) rfl, H.st1 fun u H => ⟨_, H.rd (i := 1) rfl, ?_⟩⟩
    have hl' : (⟨D, cut, cs, IntKind.wrap .i64 (acts + 1), false⟩ : LineS).cs.length ≤ 1000000 := hl
    have H0 := Lin.cl (s := ⟨D, cut, cs, IntKind.wrap .i64 (acts + 1), false⟩) hl' H
    show bcase (acts != cut) _ _
    refine bcase_mk (fun hne => ?_) fun heq => ?_
    · have hne : acts ≠ cut := by simpa using hne
      rw [show actR code f ⟨D, cut, cs, acts, false⟩ = (code D, ⟨f D, cut, cs, IntKind.wrap .i64 (acts + 1), false⟩) by unfold actR; simp [hne]]
      refine callV.mono (hd ⟨D, cut, cs, IntKind.wrap .i64 (acts + 1), false⟩ u rfl rfl H0) ?_
      rintro _ v ⟨rfl, H⟩
      exact ⟨_, rfl, rfl, H⟩
    · have heq : acts = cut := by simpa using heq
      subst heq
      obtain ⟨_, hc⟩ := H.has i1
      refine (l_last (s := ⟨D, acts, cs, IntKind.wrap .i64 (acts + 1), false⟩) H.ob hc.2).mono ?_
      rintro _ _ ⟨rfl, rfl⟩
      refine ⟨_, rfl, ?_⟩
      rw [show actR code f ⟨D, acts, cs, acts, false⟩ = (8, blowR (if oddR cs then ⟨f D, acts, cs, IntKind.wrap .i64 (acts + 1), false⟩ else ⟨D, acts, cs, IntKind.wrap .i64 (acts + 1), false⟩)) by unfold actR; simp]
      refine bcase_mk (fun ho => ?_) fun ho => ?_
      · refine callV.mono (hd ⟨D, acts, cs, IntKind.wrap .i64 (acts + 1), false⟩ u rfl rfl H0) ?_
        rintro _ v ⟨rfl, H⟩
        have ho : oddR cs = true := ho
        obtain ⟨S1, h1, back⟩ := H.foc0
        refine ⟨_, rfl, (l_Blow h1).mono ?_⟩
        rintro _ v' ⟨rfl, H⟩
        refine ⟨rfl, rfl, ?_⟩
        rw [ho, if_pos rfl]
        exact back _ _ _ H
      · have ho : oddR cs = false := ho
        obtain ⟨S1, h1, back⟩ := H0.foc0
        refine (l_Blow h1).mono ?_
        rintro _ v' ⟨rfl, H⟩
        refine ⟨rfl, rfl, ?_⟩
        rw [ho, if_neg (by simp)]
        exact back _ _ _ H

theorem Lin.dev (h : (Lin b db s).on w S) : ∃ a c, w.heap[b]? = some (LineO db a c s) ∧ s.cs.length ≤ 1000000 ∧ ∃ S1, (Dev db s.D).on w S1 ∧ ∀ D' w', Own w S1 [Dev db D'] w' → Own w S [Lin b db { s with D := D' }] w' := by
  obtain ⟨hl, a, c, H⟩ := Lin.op (Own.of1 h)
  obtain ⟨S1, h1, back⟩ := H.foc2
  exact ⟨a, c, H.ob, hl, S1, h1, fun D' w' H => Lin.cl (s := { s with D := D' }) (a := a) (c := c) hl (back _ _ _ H)⟩

theorem l_Write (h : (Lin b db s).on w S) (k : Int) (d : ByteArray) : Calls P F.«line_Line_Write» ⟨[.pointer (some ⟨b, 0, none⟩), .int .i64 k, .string d]⟩ w fun e w' => e = .returned (.int .i64 (lWrite s k d).1) ∧ Own w S [Lin b db (lWrite s k d).2] w' := by
  refine ok_line_Line_Write ?_
  unfold V_line_Line_Write
  refine (Own.nil w).al fun u0 B0 => B0.al fun u1 B1 => B1.al fun u2 B => ⟨_, B.rd0 rfl, ?_⟩
  have h2 : (Lin b db s).on u2 S := (Lin b db s).loc h (fun g hg => B.keep.block g ((Lin b db s).lt h hg) fun h => h) B.size
  have hn : ∀ g, S g → g < w.heap.size := fun g hg => (Lin b db s).lt h hg
  refine (l_act h2 (code := fun D => (wrD D k d).1) (f := fun D => (wrD D k d).2) fun s' u hD hcs H => callV_fn (by kernel_rfl) ?_).mono ?_
  · refine ok_line_Line_Write_1 ?_
    unfold V_line_Line_Write_1
    intro wd hd
    have H := H.drew hd
    have hz0 := B.ob (b := w.heap.size)
    have hz1 := B.ob (b := u0.heap.size)
    have hz2 := B.ob (b := u1.heap.size)
    have zz0 := B0.size
    have zz1 := B1.size
    have q0 := H.keep.at_ hz0 fun hg => by have := hn _ hg; omega
    have q1 := H.keep.at_ hz1 fun hg => by have := hn _ hg; omega
    have q2 := H.keep.at_ hz2 fun hg => by have := hn _ hg; omega
    obtain ⟨S1, h1, back⟩ := H.foc0
    obtain ⟨a, c, ho, hl, S3, h3, back3⟩ := Lin.dev h1
    refine ⟨_, cell_at0 q0 rfl, _, cell_at ho rfl, _, cell_at0 q1 rfl, _, cell_at0 q2 rfl, (d_Write h3 k d).mono ?_⟩
    rintro _ v ⟨rfl, Hd⟩
    exact ⟨_, rfl, rfl, back _ _ _ (back3 _ _ Hd)⟩
  · rintro _ v ⟨rfl, H⟩
    exact ⟨_, rfl, rfl, H.since B.keep⟩

theorem l_Flush (h : (Lin b db s).on w S) : Calls P F.«line_Line_Flush» ⟨[.pointer (some ⟨b, 0, none⟩)]⟩ w fun e w' => e = .returned (.int .i64 (lFlush s).1) ∧ Own w S [Lin b db (lFlush s).2] w' := by
  refine ok_line_Line_Flush ?_
  unfold V_line_Line_Flush
  refine (Own.nil w).al fun u0 B => ⟨_, B.rd0 rfl, ?_⟩
  have h2 : (Lin b db s).on u0 S := (Lin b db s).loc h (fun g hg => B.keep.block g ((Lin b db s).lt h hg) fun h => h) B.size
  have hn : ∀ g, S g → g < w.heap.size := fun g hg => (Lin b db s).lt h hg
  refine (l_act h2 (code := fun _ => 0) (f := fun D => (sett (fun _ => 64) D).1) fun s' u hD hcs H => callV_fn (by kernel_rfl) ?_).mono ?_
  · refine ok_line_Line_Flush_1 ?_
    unfold V_line_Line_Flush_1
    have q0 := H.keep.at_ (B.ob (b := w.heap.size)) fun hg => by have := hn _ hg; omega
    obtain ⟨S1, h1, back⟩ := H.foc0
    obtain ⟨a, c, ho, hl, S3, h3, back3⟩ := Lin.dev h1
    refine ⟨_, cell_at0 q0 rfl, _, cell_at ho rfl, (d_Flush h3).mono ?_⟩
    rintro _ v ⟨⟨n, rfl⟩, Hd⟩
    exact ⟨_, rfl, rfl, back _ _ _ (back3 _ _ Hd)⟩
  · rintro _ v ⟨rfl, H⟩
    exact ⟨_, rfl, rfl, H.since B.keep⟩

theorem l_Read (h : (Lin b db s).on w S) (k : Int) : Calls P F.«line_Line_Read» ⟨[.pointer (some ⟨b, 0, none⟩), .int .i64 k]⟩ w fun e w' => e = .returned (.tuple ⟨[.string (lRead s k).1, .int .i64 (lRead s k).2]⟩) ∧ w = w' := by
  refine ok_line_Line_Read ?_
  unfold V_line_Line_Read
  obtain ⟨a, c, ho, hl, S3, h3, _⟩ := Lin.dev h
  refine (l_holds ho).mono ?_
  rintro _ _ ⟨rfl, rfl⟩
  refine ⟨_, rfl, ?_⟩
  obtain ⟨D, cut, cs, acts, down⟩ := s
  cases down with
  | true => exact bcase_mk (fun _ => ⟨rfl, rfl⟩) fun h => by cases h
  | false =>
    refine bcase_mk (fun h => by cases h) fun _ => ⟨_, cell_at ho rfl, (d_Read h3 k).mono ?_⟩
    rintro _ _ ⟨rfl, rfl⟩
    exact ⟨_, _, rfl, rfl, rfl⟩

theorem l_Acts (h : (Lin b db s).on w S) : Calls P F.«line_Line_Acts» ⟨[.pointer (some ⟨b, 0, none⟩)]⟩ w fun e w' => e = .returned (.int .i64 s.acts) ∧ w = w' := by
  refine ok_line_Line_Acts ?_
  unfold V_line_Line_Acts
  obtain ⟨a, c, ho, hl, S3, h3, _⟩ := Lin.dev h
  refine (l_is ho).mono ?_
  rintro _ _ ⟨rfl, rfl⟩
  exact ⟨_, rfl, bcase_mk (fun h => by cases h) fun _ => ⟨_, cell_at ho rfl, rfl, rfl⟩⟩
theorem l_Device (h : (Lin b db s).on w S) : Calls P F.«line_Line_Device» ⟨[.pointer (some ⟨b, 0, none⟩)]⟩ w fun e w' => e = .returned (.pointer (some ⟨db, 0, none⟩)) ∧ w = w' := by
  refine ok_line_Line_Device ?_
  unfold V_line_Line_Device
  obtain ⟨a, c, ho, hl, S3, h3, _⟩ := Lin.dev h
  refine (l_is ho).mono ?_
  rintro _ _ ⟨rfl, rfl⟩
  exact ⟨_, rfl, bcase_mk (fun h => by cases h) fun _ => ⟨_, cell_at ho rfl, rfl, rfl⟩⟩

theorem i64Ok : ElemOk P T.«l_i64» T.«i64'» 1 8 := ⟨Tryz.underlying24, infoOk (z := .int .i64 0) (by kernel_rfl) rfl, by decide⟩

theorem s_CloneInt {ca : Option Addr} {n cc : Nat} {cs : List Int} (hc : Src w 1 ca n cc (cs.map i64v)) (hl : cs.length ≤ 1000000) :
    Calls P F.«slices_Clone_sl_int_int» ⟨[.slice ca n cc]⟩ w fun e w' => ∃ a c, e = .returned (.slice a cs.length c) ∧ Own w NoB [.sl T.«i64'» 1 a cs.length c (cs.map i64v)] w' := by
  have hn : cs.length = n := by have := hc.1; simpa using this
  subst hn
  refine ok_slices_Clone_sl_int_int ?_
  unfold V_slices_Clone_sl_int_int
  cases ca with
  | none =>
    have h0 : cs = [] := by
      rcases hc.2 with ⟨_, h, _⟩ | ⟨_, h, _⟩
      · exact List.length_eq_zero_iff.1 h
      · cases h
    subst h0
    exact bcase_mk (fun _ => ⟨none, 0, rfl, Own.mk1 (S' := NoB) (Keep.refl _ _) ⟨fun g => ⟨fun h => h.elim, fun h => Blk.none h⟩, Sl.nil _ _ _⟩ fun _ h => h.elim⟩) fun h => by cases h
  | some x =>
    refine bcase_mk (fun h => by cases h) fun _ => ?_
    obtain ⟨v1, hr1, n1⟩ := buildSlice_zero (w := w) i64Ok
    have hs3 : Sl v1 T.«i64'» 1 (some ⟨w.heap.size, 0, none⟩) 0 0 [] := by
      have := Sl.mk' (sz := 1) (n := 0) (c := 0) n1.at_ (by omega) (by decide) (by simp)
      simpa using this
    obtain ⟨a', c', v2, hr2, hs4, k4, hb4⟩ := append_own (ty := T.«l_i64») i64Ok hs3 (hc.keep n1.keep fun _ _ h => h) (fun u hu => by
      obtain ⟨_, _, rfl⟩ := List.mem_map.1 hu; rfl) (by omega)
    refine ⟨_, _, _, _, hr1, _, _, _, _, hr2, a', c', by rw [Nat.zero_add], ?_⟩
    have k14 : Keep NoB w v2 := n1.keep.trans k4 fun g hg h => by rw [h.eq] at hg; omega
    refine Own.mk1 (S' := Blk a') k14 ⟨fun _ => Iff.rfl, by simpa using hs4⟩ fun g hg => .inr ?_
    have z1 := n1.size
    rcases hb4 g hg with h | h
    · rw [h.eq]; omega
    · omega

theorem l_New {D : List Slot} (h : (Dev db D).on w S) (cut : Int) {ca : Option Addr} {n cc : Nat} {cs : List Int} (hc : Src w 1 ca n cc (cs.map i64v)) (hl : cs.length ≤ 1000000) :
    Calls P F.«line_New» ⟨[.pointer (some ⟨db, 0, none⟩), .int .i64 cut, .slice ca n cc]⟩ w fun e w' => ∃ b, e = .returned (.pointer (some ⟨b, 0, none⟩)) ∧ Own w S [Lin b db ⟨D, cut, cs, 0, false⟩] w' := by
  refine ok_line_New ?_
  unfold V_line_New
  have H := Own.of1 h
  obtain ⟨hD, g, c, H2⟩ := Dev.op H
  refine (d_Blocks H2.ob).mono ?_
  rintro _ _ ⟨rfl, rfl⟩
  refine ⟨_, rfl, bcase_mk (fun h => by cases h) fun _ => (s_CloneInt hc hl).mono ?_⟩
  rintro _ w1 ⟨a, c, rfl, h1⟩
  refine ⟨_, _, _, rfl, (H.add h1).al fun u H => ⟨_, rfl, Lin.cl (s := ⟨D, cut, cs, 0, false⟩) (a := a) (c := c) hl ?_⟩⟩
  exact H.perm (by
    show [Dev db D, Asrt.sl T.«i64'» 1 a cs.length c (cs.map i64v), At w1.heap.size _].Perm _
    exact (List.Perm.cons _ (List.Perm.swap _ _ _)).trans ((List.Perm.swap _ _ _).trans (List.Perm.cons _ (List.Perm.swap _ _ _))))
end
end Go.Proofs.YtgepmlgkeljelaaGreat.Vc
