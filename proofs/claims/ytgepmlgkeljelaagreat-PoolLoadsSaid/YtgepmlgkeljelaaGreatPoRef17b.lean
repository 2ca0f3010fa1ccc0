/- The document's pool (revertref17): Load, Get, Chunks, Free. -/
import Derived.Test.YtgepmlgkeljelaaGreatPoRef17
namespace Go.Proofs.YtgepmlgkeljelaaGreat.Vc
open Go Go.Proofs

section
variable {w W0 : World} {S S0 : Foot} {pb lb db tb : Nat} {v : Value} {ls : LineS} {L : List Chk} {nx : Int} {l : List Asrt}

abbrev RLP (pb lb db tb : Nat) (v : Value) (ls : LineS) (L : List Chk) (nx : Int) : List Asrt := [At pb (RPolO lb tb), Rt tb L nx, RLin lb db v ls]

theorem RLin.parts (h : (RLin lb db v ls).on w S) : w.heap[lb]? = some (RLinO db v ls) ∧ (∃ fa fc la n lc, w.heap[db]? = some (RDevO fa fc la n lc)) ∧ DevOk ls.D := by
  have H : Own w S [At lb (RLinO db v ls), RDev db ls.D] w := Own.opSep (l := []) (Own.of1 h)
  obtain ⟨_, h1⟩ := H.has i1
  obtain ⟨⟨hD, _⟩, g, fc, la, lc, H2⟩ := RDev.op (Own.of1 h1)
  exact ⟨H.ob, ⟨_, _, _, _, _, H2.ob⟩, hD⟩

theorem r17_Load (h : (RLin lb db v ls).on w S) {ca : Option Addr} {n cc : Nat} {cs : List PC} (hc : Src w 4 ca n cc (cs.flatMap encPC)) (hsep : ∀ a, ca = some a → cs ≠ [] → ¬ S a.block ∧ a.block < w.heap.size) (hl : cs.length ≤ 900) (hid : ∀ c ∈ cs, 0 ≤ c.id ∧ c.id ≤ 4294967295) (next : Int) :
    Calls P F.«revertref17_Load» ⟨[ptr lb, .int .u32 next, .slice ca n cc]⟩ w fun e w' =>
      ((ldAll ls st0 cs).1 ≠ 0 ∧ e = .returned (.tuple ⟨[.pointer none, .int .i64 (ldAll ls st0 cs).1]⟩) ∧ Own w S [RLin lb db v ls] w') ∨
      ((ldAll ls st0 cs).1 = 0 ∧ InvF (ldAll ls st0 cs).2 ∧ (ldAll ls st0 cs).2.L.length ≤ 900 ∧ ∃ pb tb, e = .returned (.tuple ⟨[ptr pb, .int .i64 0]⟩) ∧ Own w S (RLP pb lb db tb v ls (ldAll ls st0 cs).2.L (skipR (ldAll ls st0 cs).2.nx next)) w') := by
  refine ok_revertref17_Load ?_
  unfold V_revertref17_Load
  have hnn : cs.length = n := by have := hc.1; rw [flatPC_length] at this; omega
  subst hnn
  refine ok_revertref17_Make ?_
  unfold V_revertref17_Make
  refine (ref_New w).mono ?_
  rintro _ u1 ⟨rfl, k1, hT⟩
  have B : Own w NoB [Rt w.heap.size [] 1] u1 := Own.mk1 (A := Rt w.heap.size [] 1) k1 ⟨_, _, hT⟩ fun _ hg => hg.imp id (·.1)
  refine ⟨_, rfl, ((Own.of1 h).add B).al fun u2 H => ⟨_, rfl, ?_⟩⟩
  generalize htb : w.heap.size = tb at *
  generalize hpb : u1.heap.size = pb at *
  have H : Own w S (RLP pb lb db tb v ls st0.L st0.nx) u2 := H.up2.up2.dn1.up1.dn1.dn0 |> fun _ => (H.perm (List.perm_append_comm (l₁ := [RLin lb db v ls, Rt tb [] 1]) (l₂ := [At pb (RPolO lb tb)]))).perm (List.Perm.cons _ (List.Perm.swap _ _ _))
  have inv0 : InvF st0 := fun k _ _ => rfl
  refine ⟨fun p u => ∃ (i : Nat) (s : PS), p.1 = (i : Int) ∧ i ≤ cs.length ∧ s.L.length ≤ i ∧ InvF s ∧ ldAll ls st0 cs = ldAll ls s (cs.drop i) ∧ Own w S (RLP pb lb db tb v ls s.L s.nx) u, fun p _ => cs.length - p.1.toNat, ⟨0, st0, rfl, Nat.zero_le _, Nat.le_refl _, inv0, rfl, H⟩, ?_⟩
  rintro _ k u ⟨i, s, hk, hi, hsl, hinv, he, H⟩
  have hk : k = (i : Int) := hk
  subst hk
  generalize hbb : decide ((i : Int) < ((cs.length : Nat) : Int)) = bb
  refine bcase_mk (fun hlt => ?_) fun hge => ?_
  · have hlt : i < cs.length := by have := of_decide_eq_true (hbb.trans hlt); omega
    have hdr : cs.drop i = cs[i] :: cs.drop (i + 1) := List.drop_eq_getElem_cons hlt
    rw [hdr] at he
    have hcid := hid _ (List.getElem_mem hlt)
    have hc1 : Src u 4 ca cs.length cc (cs.flatMap encPC) := hc.keep H.keep fun a ha => (hsep a ha (List.ne_nil_of_length_pos (by omega))).1
    obtain ⟨x, hx, x0, x1, x2, x3⟩ := hc1.pc (i := i) (x := cs[i]) (List.getElem?_eq_getElem hlt)
    subst hx
    generalize hcc : cs[i] = c at *
    have wi : IntKind.wrap .i64 ((i : Int) + 1) = ((i + 1 : Nat) : Int) := by rw [wrap64 (by omega) (by omega)]; omega
    rw [wi]
    refine ⟨⟨by omega, by omega⟩, _, _, _, _, ⟨x0, x1, x2, x3, trivial⟩, H.al fun _ H => H.st fun _ H => H.st fun _ H => H.st fun _ H => H.st fun v1 H => ?_⟩
    obtain ⟨Sr, hr⟩ := H.has i2
    obtain ⟨hlo, ⟨fa, fc, la, n2, lc, hdo⟩, hDok⟩ := RLin.parts hr
    obtain ⟨St, ht⟩ := H.has i1
    refine (r17_free (pb := pb) H.ob ht hlo hdo (by omega)).mono ?_
    rintro _ u3 ⟨a3, c3, rfl, h3⟩
    have H := H.add h3
    have hfl : (freeL s.L).length ≤ 128 := by have := List.length_filter_le (fun k => !blk s.L k) (List.range' 128 128); rwa [List.length_range'] at this
    refine ⟨_, _, _, rfl, fun p u' => ∃ j : Nat, p.1 = ((freeL s.L).take j).any (fun k => (k : Int) == c.block) ∧ p.2.1 = (j : Int) ∧ j ≤ (freeL s.L).length ∧ Drew u3 u', fun p _ => (freeL s.L).length - p.2.1.toNat, ⟨0, rfl, rfl, Nat.zero_le _, Drew.refl _⟩, ?_⟩
    rintro _ b12 n13 u4 ⟨j, hb12, hn13, hj, hdr4⟩
    have hn13 : n13 = (j : Int) := hn13
    subst hn13
    replace hb12 : b12 = ((freeL s.L).take j).any (fun k => (k : Int) == c.block) := hb12
    have H := H.drew hdr4
    generalize hb2 : decide ((j : Int) < (((freeL s.L).length : Nat) : Int)) = b2
    refine bcase_mk (fun hlt2 => ?_) fun hge2 => ?_
    · have hlt2 : j < (freeL s.L).length := by have := of_decide_eq_true (hb2.trans hlt2); omega
      have wj : IntKind.wrap .i64 ((j : Int) + 1) = ((j + 1 : Nat) : Int) := by rw [wrap64 (by omega) (by omega)]; omega
      rw [wj]
      have dec2 : (freeL s.L).length - ((j + 1 : Nat) : Int).toNat < (freeL s.L).length - ((j : Nat) : Int).toNat := by omega
      have hany : ((freeL s.L).take (j + 1)).any (fun k => (k : Int) == c.block) = (b12 || (((freeL s.L)[j] : Int) == c.block)) := by
        rw [hb12, List.take_succ_eq_append_getElem hlt2, List.any_append]; simp
      refine bcase_mk (fun hbt => fun wd hd => ⟨⟨j + 1, by rw [hany, hbt]; rfl, rfl, by omega, hdr4.trans hd⟩, dec2⟩) fun hbf => ⟨⟨by omega, by omega⟩, ?_⟩
      obtain ⟨_, hs⟩ := H.has i4
      obtain ⟨g, rfl⟩ := hs.2.some (by omega)
      refine ⟨((freeL s.L)[j] : Int), ?_, _, H.rd (i := 1) rfl, fun wd hd => ⟨⟨j + 1, by rw [hany, hbf]; rfl, rfl, by omega, hdr4.trans hd⟩, dec2⟩⟩
      rw [add_mk, Int.toNat_natCast, Nat.mul_one, Nat.zero_add]
      exact (hs.2.cell (by simp [List.getElem?_eq_getElem hlt2])).2
    · have hje : j = (freeL s.L).length := by have := of_decide_eq_false (hb2.trans hge2); omega
      rw [hje, List.take_length, freeL_any hinv] at hb12
      have out4 : ∀ {A : Asrt} {l : List Asrt} {u' : World}, Own w S (At pb (RPolO lb tb) :: A :: RLin lb db v ls :: l) u' → Own w S [RLin lb db v ls] u' := fun H => H.up2.front
      have bad : ∀ {q : Int × PS}, ld1 ls s c = q → q.1 ≠ 0 → ldAll ls st0 cs = q := fun hq hne => by rw [he]; unfold ldAll; rw [hq, if_pos hne]
      refine ⟨_, H.rd (i := 3) rfl, ?_⟩
      generalize hq0 : decide (c.size < 1) = q0
      refine bcase_mk (fun h0 => ?_) fun h0 => ⟨_, H.rd (i := 3) rfl, ?_⟩
      · have h0 := of_decide_eq_true (hq0.trans h0)
        have := bad (q := (4, s)) (by unfold ld1; rw [if_pos (.inl h0)]) (by simp)
        rw [this]; exact .inl ⟨by simp, rfl, out4 H⟩
      have h0 := of_decide_eq_false (hq0.trans h0)
      generalize hq1 : decide (c.size > 64) = q1
      refine bcase_mk (fun h1 => ?_) fun h1 => ?_
      · have h1 := of_decide_eq_true (hq1.trans h1)
        have := bad (q := (4, s)) (by unfold ld1; rw [if_pos (.inr h1)]) (by simp)
        rw [this]; exact .inl ⟨by simp, rfl, out4 H⟩
      have h1 := of_decide_eq_false (hq1.trans h1)
      refine bcase_mk (fun hnf => ?_) fun hf => ?_
      · have hne : (useR s.f c.block).1 ≠ 0 := by rw [hb12] at hnf; simpa using hnf
        have := bad (q := (4, { s with f := (useR s.f c.block).2 })) (by unfold ld1; rw [if_neg (by omega), if_pos hne]) (by simp)
        rw [this]; exact .inl ⟨by simp, rfl, out4 H⟩
      have hfr : ¬ (useR s.f c.block).1 ≠ 0 := by rw [hb12] at hf; simpa using hf
      refine ⟨_, H.rd (i := 1) rfl, ?_⟩
      obtain ⟨Sr, hr⟩ := H.has i2
      refine (rl_Read hr c.block).mono ?_
      rintro _ u5 ⟨rfl, hd5⟩
      have H := H.drew hd5
      refine ⟨_, _, rfl, bcase_mk (fun hne => ?_) fun hz2 => fun wd hd => ?_⟩
      · have hne : (lRead ls c.block).2 ≠ 0 := by simpa using hne
        have := bad (q := ((lRead ls c.block).2, { s with f := (useR s.f c.block).2 })) (by unfold ld1; rw [if_neg (by omega), if_neg hfr, if_pos hne]) hne
        rw [this]; exact .inl ⟨hne, rfl, out4 H⟩
      have hz2 : (lRead ls c.block).2 = 0 := by simpa using hz2
      have H := H.drew hd
      have hsz : (lRead ls c.block).1.size = 64 := by
        unfold lRead at hz2 ⊢
        split at hz2
        · cases hz2
        · rename_i hdn
          rw [if_neg hdn]
          exact rdD_size hDok hz2
      refine ⟨some ⟨tb, 0, none⟩, H.rd (i := 1) rfl, _, H.rd (i := 0) rfl, _, H.rd (i := 3) rfl, ⟨by omega, by omega, by rw [hsz]; omega⟩, _, H.rd (i := 1) rfl, _, H.rd (i := 2) rfl, ?_⟩
      obtain ⟨S4, ⟨ta, tc, h4⟩, back⟩ := H.foc1
      refine (ref_Load h4 ⟨c.id, (lRead ls c.block).1.extract 0 c.size.toNat, c.block, c.refs⟩ (by omega) hcid).mono ?_
      rintro _ u6 ⟨rfl, h6⟩
      have H := (back _ _ _ h6.own17).front3
      have eld : ld1 ls s c = ((if (loadR s.L s.nx ⟨c.id, (lRead ls c.block).1.extract 0 c.size.toNat, c.block, c.refs⟩).1 ≠ 0 then 4 else 0), ⟨(loadR s.L s.nx ⟨c.id, (lRead ls c.block).1.extract 0 c.size.toNat, c.block, c.refs⟩).2.1, (loadR s.L s.nx ⟨c.id, (lRead ls c.block).1.extract 0 c.size.toNat, c.block, c.refs⟩).2.2, (useR s.f c.block).2⟩) := by
        unfold ld1; rw [if_neg (by omega), if_neg hfr, if_neg (by simpa using hz2)]
      refine ⟨_, rfl, bcase_mk (fun hne => ?_) fun hz3 => ?_⟩
      · have hne : (loadR s.L s.nx ⟨c.id, (lRead ls c.block).1.extract 0 c.size.toNat, c.block, c.refs⟩).1 ≠ 0 := by simpa using hne
        rw [if_pos hne] at eld
        have := bad eld (by simp)
        rw [this]; exact .inl ⟨by simp, rfl, out4 H⟩
      · have hz3 : (loadR s.L s.nx ⟨c.id, (lRead ls c.block).1.extract 0 c.size.toNat, c.block, c.refs⟩).1 = 0 := by simpa using hz3
        rw [if_neg (by simpa using hz3)] at eld
        have hinv2 : InvF (ld1 ls s c).2 := ld1_inv hinv (by rw [eld])
        have hlen2 := ld1_len ls s c
        refine ⟨⟨i + 1, (ld1 ls s c).2, rfl, by omega, by omega, hinv2, ?_, ?_⟩, by show cs.length - ((i + 1 : Nat) : Int).toNat < cs.length - ((i : Nat) : Int).toNat; omega⟩
        · rw [he]; conv => lhs; unfold ldAll
          rw [if_neg (by rw [eld]; simp)]
        · rw [eld]; exact H
  · have hie : i = cs.length := by have := of_decide_eq_false (hbb.trans hge); omega
    rw [hie, List.drop_length] at he
    have he : ldAll ls st0 cs = (0, s) := he
    rw [he]
    refine ⟨some ⟨tb, 0, none⟩, H.rd (i := 1) rfl, ?_⟩
    obtain ⟨S1, ⟨ta, tc, h1⟩, back⟩ := H.foc1
    refine (ref_Skip h1 next).mono ?_
    rintro _ u2 ⟨rfl, h2⟩
    exact ⟨rfl, .inr ⟨rfl, hinv, by show s.L.length ≤ 900; omega, pb, tb, rfl, (back _ _ _ h2.own17).front3⟩⟩

theorem r17_Free (h : Sep (RLP pb lb db tb v ls L nx) w S) (hL : L.length ≤ 1000) : Calls P F.«revertref17_Pool_Free» ⟨[ptr pb]⟩ w fun e w' => e = .returned (.int .i64 ((freeL L).length : Nat)) ∧ Keep NoB w w' := by
  refine ok_revertref17_Pool_Free ?_
  unfold V_revertref17_Pool_Free
  have H := Own.of h
  obtain ⟨Sr, hr⟩ := H.has i2
  obtain ⟨hlo, ⟨fa, fc, la, n2, lc, hdo⟩, hDok⟩ := RLin.parts hr
  obtain ⟨St, ht⟩ := H.has i1
  refine (r17_free (pb := pb) H.ob ht hlo hdo hL).mono ?_
  rintro _ u3 ⟨a3, c3, rfl, h3⟩
  exact ⟨_, _, _, rfl, rfl, h3.keep⟩

theorem r17_Get (hp : w.heap[pb]? = some (RPolO lb tb)) {a : Option Addr} {c : Nat} {S1 : Foot} (ht : RT w tb a c L nx S1) (hd : ∀ x ∈ L, x.data.size ≤ 64) {ia : Option Addr} {n ic : Nat} {ids : List Int} (hi : Src w 1 ia n ic (ids.map u32v)) (hil : ids.length ≤ 1000000) (size : Int) :
    Calls P F.«revertref17_Pool_Get» ⟨[ptr pb, .slice ia n ic, .int .i64 size]⟩ w fun e w' => e = .returned (.tuple ⟨[.string (getR L ids size).1, .int .i64 (getR L ids size).2]⟩) ∧ Keep NoB w w' := by
  refine ok_revertref17_Pool_Get ?_
  unfold V_revertref17_Pool_Get
  have hnn : ids.length = n := by have := hi.1; simpa using this
  subst hnn
  refine ⟨fun p u => ∃ (i : Nat) (acc : List UInt8), p = (bytesB acc, (i : Int), ()) ∧ i ≤ ids.length ∧ acc.length ≤ 64 * i ∧ catR L ids = (catR L (ids.drop i)).map (acc ++ ·) ∧ Drew w u, fun p _ => ids.length - p.2.1.toNat, ⟨0, [], rfl, Nat.zero_le _, by simp, by cases hc : catR L ids <;> simp [hc], Drew.refl _⟩, ?_⟩
  rintro _ s8 n9 u ⟨i, acc, he, hi2, hal, hcat, hdr⟩
  simp only [Prod.mk.injEq, and_true] at he
  obtain ⟨rfl, rfl⟩ := he
  generalize hbb : decide ((i : Int) < ((ids.length : Nat) : Int)) = bb
  refine bcase_mk (fun hlt => fun wd hd2 => ?_) fun hge => ?_
  · have hlt : i < ids.length := by have := of_decide_eq_true (hbb.trans hlt); omega
    have hdr2 := hdr.trans hd2
    have hrow : ids.drop i = ids[i] :: ids.drop (i + 1) := List.drop_eq_getElem_cons hlt
    rw [hrow] at hcat
    have hp2 := hdr2.at_ hp
    have hT := ht.drew hdr2
    obtain ⟨x, rfl, hx⟩ := (hi.drew hdr2).at1 (i := i) (v := u32v ids[i]) (by simp [List.getElem?_eq_getElem hlt])
    have wi : IntKind.wrap .i64 ((i : Int) + 1) = ((i + 1 : Nat) : Int) := by rw [wrap64 (by omega) (by omega)]; omega
    rw [wi]
    refine ⟨_, cell_at hp2 rfl, ⟨by omega, by omega⟩, _, hx, (ref_At hT ids[i]).mono ?_⟩
    rintro _ _ ⟨rfl, rfl⟩
    refine ⟨_, rfl, ?_⟩
    rcases getC_at (L := L) (id := ids[i]) with ⟨hg, hneg⟩ | ⟨c, k, hg, hk, hLk⟩
    · generalize hb1 : decide (atI L ids[i] < 0) = b1
      refine bcase_mk (fun _ => ⟨?_, Keep.drew _ hdr2⟩) fun h => by have := of_decide_eq_false (hb1.trans h); omega
      have : catR L ids = none := by rw [hcat]; unfold catR; rw [hg]; rfl
      unfold getR; rw [this]
    · generalize hb1 : decide (atI L ids[i] < 0) = b1
      refine bcase_mk (fun h => by have := of_decide_eq_true (hb1.trans h); omega) fun _ => ?_
      rw [hk]
      have hkl : k < L.length := (List.getElem?_eq_some_iff.1 hLk).1
      obtain ⟨y, rfl, y0, y1, y2, y3⟩ := hT.rd hLk
      have hcs := hd c (List.mem_of_getElem? hLk)
      refine ⟨_, cell_at hp2 rfl, _, _, _, cell_at hT.at_ rfl, ⟨by omega, by omega⟩, c.data, y1, ?_, ⟨i + 1, acc ++ c.data.data.toList, ?_, by omega, ?_, ?_, hdr2⟩, by show ids.length - ((i + 1 : Nat) : Int).toNat < ids.length - ((i : Nat) : Int).toNat; omega⟩
      · rw [bytesB_size]; omega
      · have : bytesB acc ++ c.data = bytesB (acc ++ c.data.data.toList) := by
          apply ByteArray.ext; simp [bytesB]
        rw [this]
      · rw [List.length_append]; have : c.data.data.toList.length = c.data.size := rfl; omega
      · rw [hcat]; conv => lhs; unfold catR
        rw [hg]; simp only [Option.map_map]
        congr 1; funext x; simp
  · have hie : i = ids.length := by have := of_decide_eq_false (hbb.trans hge); omega
    rw [hie, List.drop_length] at hcat
    have hcat : catR L ids = some acc := by rw [hcat]; simp [catR]
    refine bcase_mk (fun hne => ⟨?_, Keep.drew _ hdr⟩) fun heq => ⟨?_, Keep.drew _ hdr⟩
    · have hne : ((acc.length : Nat) : Int) ≠ size := by rw [bytesB_size] at hne; simpa using hne
      unfold getR; rw [hcat]; simp only; rw [if_pos hne]
    · have heq : ((acc.length : Nat) : Int) = size := by rw [bytesB_size] at heq; simpa using heq
      unfold getR; rw [hcat]; simp only; rw [if_neg (by simpa using heq)]; rfl

theorem r17_Chunks (hp : w.heap[pb]? = some (RPolO lb tb)) {a : Option Addr} {c : Nat} {S1 : Foot} (ht : RT w tb a c L nx S1) (hL : L.length ≤ 1000) :
    Calls P F.«revertref17_Pool_Chunks» ⟨[ptr pb]⟩ w fun e w' => ∃ a c, e = .returned (.slice a L.length c) ∧ Own w NoB [.sl T.«revertref17_Chunk» 4 a L.length c ((L.map pcOf).flatMap encPC)] w' := by
  refine ok_revertref17_Pool_Chunks ?_
  unfold V_revertref17_Pool_Chunks
  refine ⟨fun p u => ∃ (i : Nat) (a : Option Addr) (c : Nat), p = ((a, i, c), (i : Int), ()) ∧ i ≤ L.length ∧ Own w NoB [.sl T.«revertref17_Chunk» 4 a i c (((L.take i).map pcOf).flatMap encPC)] u, fun p _ => L.length - p.2.1.toNat, ⟨0, none, 0, rfl, Nat.zero_le _, (Own.nil w).nilRow _ _⟩, ?_⟩
  rintro _ a2 l2 c2 n4 u ⟨i, a', c', he, hi, H⟩
  simp only [Prod.mk.injEq, and_true] at he
  obtain ⟨⟨rfl, rfl, rfl⟩, rfl⟩ := he
  have hp2 := H.keep.at_ hp fun h => h
  have hT := ht.keep H.keep fun _ _ h => h
  refine ⟨_, cell_at hp2 rfl, _, _, _, cell_at hT.at_ rfl, ?_⟩
  generalize hbb : decide (((l2 : Nat) : Int) < ((L.length : Nat) : Int)) = bb
  refine bcase_mk (fun hlt => ⟨_, cell_at hp2 rfl, _, _, _, cell_at hT.at_ rfl, ?_⟩) fun hge => ?_
  · have hlt : l2 < L.length := by have := of_decide_eq_true (hbb.trans hlt); omega
    obtain ⟨y, rfl, y0, y1, y2, y3⟩ := hT.rd (List.getElem?_eq_getElem hlt)
    have wi : IntKind.wrap .i64 ((l2 : Int) + 1) = ((l2 + 1 : Nat) : Int) := by rw [wrap64 (by omega) (by omega)]; omega
    rw [wi]
    refine ⟨⟨by omega, by omega⟩, _, _, _, _, ⟨y0, y1, y2, y3, trivial⟩, ?_⟩
    refine ok_revertref17_chunk ?_
    unfold V_revertref17_chunk
    refine H.al fun v H => H.al fun v H => ⟨_, H.rd (i := 0) rfl, _, H.rd (i := 2) rfl, _, H.rd (i := 3) rfl, _, H.rd (i := 1) rfl, H.st fun v H => H.st fun v H => H.st fun v H => H.st fun v H => ⟨_, _, _, _, ⟨H.rd (i := 0) rfl, H.rd (i := 1) rfl, H.rd (i := 2) rfl, H.rd (i := 3) rfl, trivial⟩, _, _, _, _, rfl, ?_⟩⟩
    refine H.al fun v H => H.st fun v H => H.st fun v H => H.st fun v H => H.st fun v H => ⟨_, _, _, _, ⟨H.rd (i := 0) rfl, H.rd (i := 1) rfl, H.rd (i := 2) rfl, H.rd (i := 3) rfl, trivial⟩, ?_⟩
    refine H.app1 (ty := T.«l_revertref17_Chunk») ref17Ok (v := .agg ⟨encPC (pcOf L[l2])⟩) rfl (fun u hu => encPC_one u hu) (by omega) (by omega) fun a3 c3 v H => ⟨⟨l2 + 1, a3, c3, rfl, by omega, ?_⟩, by show L.length - ((l2 + 1 : Nat) : Int).toNat < L.length - ((l2 : Nat) : Int).toNat; omega⟩
    rw [List.take_succ_eq_append_getElem hlt, List.map_append, List.flatMap_append]
    simpa [Value.cells] using H.front
  · have hie : l2 = L.length := by have := of_decide_eq_false (hbb.trans hge); omega
    rw [hie, List.take_length] at H
    rw [hie]
    exact ⟨a2, c2, rfl, H⟩
end
end Go.Proofs.YtgepmlgkeljelaaGreat.Vc
