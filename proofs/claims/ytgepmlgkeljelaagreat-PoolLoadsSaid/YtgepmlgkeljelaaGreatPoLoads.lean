/- The law PoolLoads. -/
import Derived.Test.YtgepmlgkeljelaaGreatPoRef17b
namespace Go.Proofs.YtgepmlgkeljelaaGreat.Vc
open Go Go.Proofs

theorem Own.foc0B {W0 w : World} {S0 : Foot} {B : Asrt} {l : List Asrt} (H : Own W0 S0 (B :: l) w) : ∃ S, B.on w S ∧ (∀ g, S g → S0 g ∨ W0.heap.size ≤ g) ∧ ∀ l' w', Own w S l' w' → Own W0 S0 (l' ++ l) w' := by
  obtain ⟨⟨T, ⟨S1, S2, h1, h2, hd, hs⟩, hb⟩, k⟩ := H
  refine ⟨S1, h1, fun g hg => hb g ((hs g).2 (.inl hg)), fun l' w' ⟨⟨T', h', hb'⟩, k'⟩ => ?_⟩
  have lt2 : ∀ g, S2 g → g < w.heap.size := fun g hg => h2.lt hg
  have h2' : Sep l w' S2 := h2.loc (fun g hg => k'.block g (lt2 g hg) fun h => hd g h hg) k'.size
  refine ⟨⟨_, h'.append h2' fun g hg h2g => ?_, fun g hg => ?_⟩, k.trans k' fun g hg h => (hb g ((hs g).2 (.inl h))).resolve_right (by omega)⟩
  · rcases hb' g hg with h | h
    · exact hd g h h2g
    · have := lt2 g h2g; omega
  · have := k.size
    rcases hg with hg | hg
    · rcases hb' g hg with h | h
      · exact hb g ((hs g).2 (.inl h))
      · exact .inr (by omega)
    · exact hb g ((hs g).2 (.inr hg))

section
variable {w : World}

theorem c_PoolLoads {la ba : Option Addr} {n lc m bc : Nat} {cs : List PC} {bls : List ByteArray} (hc : Src w 4 la n lc (cs.flatMap encPC)) (hb : Src w 1 ba m bc (bls.map strv)) (hla : ∀ a, la = some a → cs ≠ [] → a.block < w.heap.size)
    (hid : ∀ c ∈ cs, 0 ≤ c.id ∧ c.id ≤ 4294967295) (next : Int) (hnx : 0 ≤ next ∧ next ≤ 4294967295) :
    Calls P F.«revertlaw17_PoolLoads» ⟨[.slice la n lc, .int .u32 next, .slice ba m bc]⟩ w fun e w' => e = .returned (.bool true) ∧ Keep NoB w w' := by
  refine ok_revertlaw17_PoolLoads ?_
  unfold V_revertlaw17_PoolLoads
  have hn : cs.length = n := by have := hc.1; rw [flatPC_length] at this; omega
  have hm : bls.length = m := by have := hb.1; simpa using this
  subst hn hm
  have aw : ∀ {u : World} {R : Ending → World → Prop}, Keep NoB w u → R = (fun e w' => e = .returned (.bool true) ∧ Keep NoB w w') → Calls P F.«revertlaw17_awake» ⟨[]⟩ u fun e28 w28 => ∃ b28 : Bool, e28 = .returned (.bool b28) ∧ R (.returned (.bool b28)) w28 := fun k hR => by
    subst hR
    refine (r_awake _).mono ?_
    rintro _ u' ⟨rfl, k'⟩
    exact ⟨_, rfl, rfl, k.trans k' fun _ _ h => h⟩
  generalize hb0 : decide (((cs.length : Nat) : Int) > 20) = b0
  refine bcase_mk (fun _ => aw (Keep.refl _ _) rfl) fun h0 => ?_
  have h0 : cs.length ≤ 20 := by have := of_decide_eq_false (hb0.trans h0); omega
  generalize hb1 : decide (((bls.length : Nat) : Int) > 20) = b1
  refine bcase_mk (fun _ => aw (Keep.refl _ _) rfl) fun h1 => ?_
  have h1 : bls.length ≤ 20 := by have := of_decide_eq_false (hb1.trans h1); omega
  refine (d_New w).mono ?_
  rintro _ u1 ⟨db, rfl, H⟩
  refine ⟨_, rfl, ?_⟩
  obtain ⟨S1, hd1, _, back⟩ := H.foc0B
  refine (l_New hd1 (-1) (ca := none) (n := 0) (cc := 0) (cs := []) ⟨rfl, .inl ⟨rfl, rfl, rfl⟩⟩ (by simp)).mono ?_
  rintro _ u2 ⟨lb, rfl, h2⟩
  have H := back _ _ h2
  refine ⟨_, rfl, (rd_New u2).mono ?_⟩
  rintro _ u3 ⟨db2, rfl, h3⟩
  refine ⟨_, rfl, (H.add h3).al fun u4 H => bcase_mk (fun h => by cases h) fun _ => ?_⟩
  generalize hlb2 : u3.heap.size = lb2 at *
  let st : List Slot → Int → LineS := fun D i => ⟨D, -1, [], i, false⟩
  have H : Own w NoB [RLin lb2 db2 (.slice none 0 0) (st (List.replicate 256 slot0) 0), Lin lb db (st (List.replicate 256 slot0) 0)] u4 := by
    have H1 : Own w NoB [Lin lb db (st (List.replicate 256 slot0) 0), RDev db2 (List.replicate 256 slot0), At lb2 (RLinO db2 (.slice none 0 0) (st (List.replicate 256 slot0) 0))] u4 := H
    exact Own.mkSep (l1 := [At lb2 (RLinO db2 (.slice none 0 0) (st (List.replicate 256 slot0) 0)), RDev db2 (List.replicate 256 slot0)]) (l := [Lin lb db (st (List.replicate 256 slot0) 0)]) (H1.perm ((List.perm_append_comm (l₁ := [_]) (l₂ := [_, _])).trans (List.Perm.swap _ _ _)))
  refine ⟨fun p u => ∃ (i : Nat) (D : List Slot), p.1 = (i : Int) ∧ i ≤ bls.length ∧ Own w NoB [RLin lb2 db2 (.slice none 0 0) (st D i), Lin lb db (st D i)] u, fun p _ => bls.length - p.1.toNat, ⟨0, _, rfl, Nat.zero_le _, H⟩, ?_⟩
  rintro _ k u ⟨i, D, hk, hi, H⟩
  have hk : k = (i : Int) := hk
  subst hk
  generalize hbb : decide ((i : Int) < ((bls.length : Nat) : Int)) = bb
  refine bcase_mk (fun hlt => ?_) fun hge => ?_
  · have hlt : i < bls.length := by have := of_decide_eq_true (hbb.trans hlt); omega
    obtain ⟨x, hx, hxc⟩ := (hb.quiet H.keep).at1 (i := i) (v := strv bls[i]) (by simp [List.getElem?_eq_getElem hlt])
    subst hx
    have wi : IntKind.wrap .i64 ((i : Int) + 1) = ((i + 1 : Nat) : Int) := by rw [wrap64 (by omega) (by omega)]; omega
    rw [wi]
    refine ⟨⟨by omega, by omega⟩, _, hxc, ?_⟩
    generalize hb2 : decide ((bls[i].size : Int) > 64) = b2
    refine bcase_mk (fun _ => aw H.keep rfl) fun _ => ⟨⟨by omega, by omega⟩, _, hxc, ?_⟩
    obtain ⟨S5, h5, back5⟩ := H.foc1
    refine (l_Write h5 _ bls[i]).mono ?_
    rintro _ u5 ⟨rfl, h6⟩
    have H := (back5 _ _ _ h6).front2
    obtain ⟨x2, hx2, hxc2⟩ := (hb.quiet H.keep).at1 (i := i) (v := strv bls[i]) (by simp [List.getElem?_eq_getElem hlt])
    cases hx2
    refine ⟨_, rfl, ⟨by omega, by omega⟩, _, hxc2, ?_⟩
    obtain ⟨S6, h7, back6⟩ := H.foc0
    refine (rl_Write h7 rfl (by show (i : Int) ≠ -1; omega) _ bls[i]).mono ?_
    rintro _ u6 ⟨⟨n64, rfl⟩, h8⟩
    have H := (back6 _ _ _ h8).front2
    have e : ∀ kk d, (lWrite (st D i) kk d).2 = st (wrD D kk d).2 ((i + 1 : Nat) : Int) := fun kk d => by
      have hne : (i : Int) ≠ -1 := by omega
      unfold lWrite actR; simp [st, hne, wi]
    rw [e] at H
    exact ⟨_, rfl, ⟨i + 1, _, rfl, by omega, H⟩, by show bls.length - ((i + 1 : Nat) : Int).toNat < bls.length - ((i : Nat) : Int).toNat; omega⟩
  -- loaded
  generalize hls : st D i = ls at H
  have kW := H.keep
  obtain ⟨S1, g1, gb1, back1⟩ := H.up1.foc0B
  have lt1 : ∀ g, S1 g → w.heap.size ≤ g := fun g hg => (gb1 g hg).resolve_left fun h => h
  refine (o_Load g1 (hc.quiet kW) (fun a ha hne => ⟨fun hs => by have := lt1 _ hs; have := hla a ha hne; omega, by have := hla a ha hne; have := kW.size; omega⟩) (by omega) hid next hnx).mono ?_
  have th : ∀ {u' : World}, Keep NoB w u' → Calls P F.«revertlaw17_theirs» ⟨[.slice la cs.length lc]⟩ u' fun e w' => ∃ b c, e = .returned (.slice b cs.length c) ∧ Own u' NoB [.sl T.«revertref17_Chunk» 4 b cs.length c (cs.flatMap encPC)] w' := fun k => r_theirs (hc.quiet k) (by omega)
  rintro _ u7 (⟨hne, rfl, h9⟩ | ⟨hz, pb, rfl, h9⟩)
  · have H := back1 _ _ h9
    refine ⟨_, _, rfl, (th H.keep).mono ?_⟩
    rintro _ u8 ⟨tb, tc, rfl, h10⟩
    obtain ⟨S2, g2, gb2, back2⟩ := H.up1.foc0B
    have g2' := (RLin lb2 db2 (.slice none 0 0) ls).loc g2 (fun g hg => h10.keep.block g ((RLin lb2 db2 (.slice none 0 0) ls).lt g2 hg) fun h => h) h10.size
    obtain ⟨Sx, hx, hxb, _⟩ := h10.out
    refine ⟨_, _, _, rfl, (r17_Load g2' hx.2.srcAll (fun a ha _ => ?_) (by omega) hid next).mono ?_⟩
    · have hbk : Blk tb a.block := ⟨a, ha, rfl⟩
      refine ⟨fun hs => ?_, hx.2.lt hbk⟩
      have := (RLin lb2 db2 (.slice none 0 0) ls).lt g2 hs
      have := (hxb a.block ((hx.1 _).2 hbk)).resolve_left fun h => h
      omega
    · rintro _ u9 (⟨_, rfl, h11⟩ | ⟨hz, _⟩)
      · have H := back2 _ _ (h11.since h10.keep)
        refine ⟨_, _, rfl, bcase_mk (fun h => by simp at h) fun _ => bcase_mk (fun h => by cases h) fun _ => bcase_mk (fun _ => aw H.keep rfl) fun h => by cases h⟩
      · exact absurd hz hne
  · have H := back1 _ _ h9
    have H : Own w NoB [Lin lb db ls, Pol pb lb _ _ _, RLin lb2 db2 (.slice none 0 0) ls] u7 := H
    refine ⟨_, _, rfl, (th H.keep).mono ?_⟩
    rintro _ u8 ⟨tb, tc, rfl, h10⟩
    obtain ⟨S2, g2, gb2, back2⟩ := H.up2.foc0B
    have g2' := (RLin lb2 db2 (.slice none 0 0) ls).loc g2 (fun g hg => h10.keep.block g ((RLin lb2 db2 (.slice none 0 0) ls).lt g2 hg) fun h => h) h10.size
    obtain ⟨Sx, hx, hxb, _⟩ := h10.out
    refine ⟨_, _, _, rfl, (r17_Load g2' hx.2.srcAll (fun a ha _ => ?_) (by omega) hid next).mono ?_⟩
    · have hbk : Blk tb a.block := ⟨a, ha, rfl⟩
      refine ⟨fun hs => ?_, hx.2.lt hbk⟩
      have := (RLin lb2 db2 (.slice none 0 0) ls).lt g2 hs
      have := (hxb a.block ((hx.1 _).2 hbk)).resolve_left fun h => h
      omega
    · rintro _ u9 (⟨hne, _⟩ | ⟨_, hinv, hLl, rp, rt, rfl, h11⟩)
      · exact absurd hz hne
      have H := back2 _ _ (h11.since h10.keep)
      generalize hres : (ldAll ls st0 cs).2 = s at *
      generalize hnx2 : skipR s.nx next = nx at *
      have H : Own w NoB [At rp (RPolO lb2 rt), Rt rt s.L nx, RLin lb2 db2 (.slice none 0 0) ls, Lin lb db ls, Pol pb lb s.L nx s.f] u9 := H
      refine ⟨_, _, rfl, bcase_mk (fun h => by simp at h) fun _ => bcase_mk (fun h => by cases h) fun _ => bcase_mk (fun h => by cases h) fun _ => ?_⟩
      refine ⟨fun p u' => ∃ i : Nat, p.1 = (i : Int) ∧ i ≤ cs.length ∧ Own w NoB [At rp (RPolO lb2 rt), Rt rt s.L nx, RLin lb2 db2 (.slice none 0 0) ls, Lin lb db ls, Pol pb lb s.L nx s.f] u', fun p _ => cs.length - p.1.toNat, ⟨0, rfl, Nat.zero_le _, H⟩, ?_⟩
      rintro _ k2 u10 ⟨i2, hk2, hi2, H⟩
      have hk2 : k2 = (i2 : Int) := hk2
      subst hk2
      obtain ⟨_, hpol⟩ := H.has i4
      obtain ⟨_, _, _, _, _, hded, _⟩ := Pol.parts hpol
      have hwf := (Ded.wf hded).1
      generalize hb3 : decide ((i2 : Int) < ((cs.length : Nat) : Int)) = b3
      refine bcase_mk (fun hlt => ?_) fun hge => fun wd hd => ?_
      · have hlt : i2 < cs.length := by have := of_decide_eq_true (hb3.trans hlt); omega
        obtain ⟨x, hx, x0, x1, x2, x3⟩ := (hc.quiet H.keep).pc (i := i2) (x := cs[i2]) (List.getElem?_eq_getElem hlt)
        subst hx
        have wi : IntKind.wrap .i64 ((i2 : Int) + 1) = ((i2 + 1 : Nat) : Int) := by rw [wrap64 (by omega) (by omega)]; omega
        rw [wi]
        refine ⟨⟨by omega, by omega⟩, _, x0, ?_⟩
        obtain ⟨v1, hr1, n1⟩ := buildSlice_one (w := u10) u32Ok (.int .u32 cs[i2].id) rfl (by omega)
        have H := H.quiet n1.keep
        obtain ⟨y, hy, y0, y1, y2, y3⟩ := (hc.quiet H.keep).pc (i := i2) (x := cs[i2]) (List.getElem?_eq_getElem hlt)
        cases hy
        have hsrc : Src v1 1 (some ⟨u10.heap.size, 0, none⟩) 1 1 ([cs[i2].id].map u32v) := ⟨rfl, .inr ⟨_, rfl, fun j x hj => cell_at n1.at_ (by simpa [Value.cells] using hj)⟩⟩
        refine ⟨_, _, _, _, hr1, ⟨by omega, by omega⟩, _, y3, ?_⟩
        obtain ⟨_, hpol⟩ := H.has i4
        refine (o_Get hpol (ids := [cs[i2].id]) hsrc (by simp) cs[i2].size).mono ?_
        rintro _ v2 ⟨rfl, k3⟩
        have H := H.quiet k3
        obtain ⟨z, hz', z0, z1, z2, z3⟩ := (hc.quiet H.keep).pc (i := i2) (x := cs[i2]) (List.getElem?_eq_getElem hlt)
        cases hz'
        obtain ⟨_, ⟨ra, rc, hrt⟩⟩ := H.has i1
        refine ⟨_, _, rfl, ⟨by omega, by omega⟩, _, z3, (r17_Get (ids := [cs[i2].id]) H.ob hrt (fun x hx => (hwf.rng x hx).2.1.2) (hsrc.quiet k3) (by simp) cs[i2].size).mono ?_⟩
        rintro _ v3 ⟨rfl, k4⟩
        have H := H.quiet k4
        exact ⟨_, _, rfl, bcase_mk (fun h => by simp at h) fun _ => bcase_mk (fun h => by simp at h) fun _ => ⟨⟨i2 + 1, rfl, by omega, H⟩, by show cs.length - ((i2 + 1 : Nat) : Int).toNat < cs.length - ((i2 : Nat) : Int).toNat; omega⟩⟩
      · have H := H.drew hd
        obtain ⟨S7, h7, back7⟩ := H.foc4
        refine (o_Chunks h7).mono ?_
        rintro _ v1 ⟨a1, c1, rfl, h12⟩
        have H := back7 _ _ _ h12
        have H : Own w NoB [At rp (RPolO lb2 rt), Rt rt s.L nx, RLin lb2 db2 (.slice none 0 0) ls, Lin lb db ls, Pol pb lb s.L nx s.f, .sl T.«pool_Chunk» 4 a1 s.L.length c1 (s.L.flatMap encP)] v1 := H
        have efl : s.L.flatMap encP = (s.L.map pcOf).flatMap encPC := by rw [List.flatMap_map]; rfl
        obtain ⟨_, hs1⟩ := H.has i5
        have hs1 := hs1.2.srcAll
        rw [efl] at hs1
        refine ⟨_, _, _, rfl, (r_theirs hs1 (by rw [List.length_map]; omega)).mono ?_⟩
        rintro _ v2 ⟨a2, c2, rfl, h13⟩
        have H := H.add h13
        obtain ⟨_, ⟨ra, rc, hrt⟩⟩ := H.has i1
        refine ⟨_, _, _, rfl, (r17_Chunks H.ob hrt (by omega)).mono ?_⟩
        rintro _ v3 ⟨a3, c3, rfl, h14⟩
        obtain ⟨_, hs2⟩ := h13.has i0
        obtain ⟨_, hs3⟩ := h14.has i0
        have H := H.quiet h14.keep
        refine ⟨_, _, _, rfl, (r_Same (hs2.2.srcAll.quiet h14.keep) hs3.2.srcAll (by rw [List.length_map]; omega)).mono ?_⟩
        rintro _ v4 ⟨rfl, k5⟩
        have H := H.quiet k5
        rw [decide_eq_true rfl]
        refine ⟨_, rfl, bcase_mk (fun _ => ?_) fun h => by cases h⟩
        obtain ⟨_, hpol⟩ := H.has i4
        refine (o_Free hpol).mono ?_
        rintro _ v5 ⟨rfl, k6⟩
        have H := H.quiet k6
        refine ⟨_, rfl, ?_⟩
        obtain ⟨S8, h8⟩ : ∃ S8, Sep (RLP rp lb2 db2 rt (.slice none 0 0) ls s.L nx) v5 S8 := by
          obtain ⟨S8, h8, _⟩ := H.front3.all
          exact ⟨S8, h8⟩
        refine (r17_Free h8 (by omega)).mono ?_
        rintro _ v6 ⟨rfl, k7⟩
        have H := H.quiet k7
        rw [freeL_frees hinv]
        refine ⟨_, rfl, bcase_mk (fun _ => ?_) fun h => by simp at h⟩
        obtain ⟨_, ⟨ra, rc, hrt⟩⟩ := H.has i1
        obtain ⟨_, hpol⟩ := H.has i4
        refine ⟨some ⟨rt, 0, none⟩, H.rd (i := 1) rfl, _, hrt.next, (o_Next hpol).mono ?_⟩
        rintro _ _ ⟨rfl, rfl⟩
        refine ⟨_, rfl, ⟨_, hrt.next, rfl⟩, ⟨some ⟨rt, 0, none⟩, H.rd (i := 1) rfl, rfl⟩, bcase_mk (fun _ => aw H.keep rfl) fun h => by simp at h⟩
end
end Go.Proofs.YtgepmlgkeljelaaGreat.Vc
