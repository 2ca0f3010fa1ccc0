/- The pool's Load. -/
import Derived.Test.YtgepmlgkeljelaaGreatPoAwake
namespace Go.Proofs.YtgepmlgkeljelaaGreat.Vc
open Go Go.Proofs

/-- One chunk, taken in. -/
def ld1 (ls : LineS) (s : PS) (c : PC) : Int × PS :=
  if c.size < 1 ∨ c.size > 64 then (4, s)
  else if (useR s.f c.block).1 ≠ 0 then (4, { s with f := (useR s.f c.block).2 })
  else if (lRead ls c.block).2 ≠ 0 then ((lRead ls c.block).2, { s with f := (useR s.f c.block).2 })
  else ((if (loadR s.L s.nx ⟨c.id, (lRead ls c.block).1.extract 0 c.size.toNat, c.block, c.refs⟩).1 ≠ 0 then 4 else 0),
    ⟨(loadR s.L s.nx ⟨c.id, (lRead ls c.block).1.extract 0 c.size.toNat, c.block, c.refs⟩).2.1, (loadR s.L s.nx ⟨c.id, (lRead ls c.block).1.extract 0 c.size.toNat, c.block, c.refs⟩).2.2, (useR s.f c.block).2⟩)
def ldAll (ls : LineS) : PS → List PC → Int × PS
  | s, [] => (0, s)
  | s, c :: r => if (ld1 ls s c).1 ≠ 0 then ld1 ls s c else ldAll ls (ld1 ls s c).2 r
def skipR (nx n : Int) : Int := if n > nx then n else nx

theorem loadR_len (L : List Chk) (nx : Int) (x : Chk) : (loadR L nx x).2.1.length ≤ L.length + 1 := by
  unfold loadR
  repeat' split
  all_goals simp [insC_length]
theorem ld1_len (ls : LineS) (s : PS) (c : PC) : (ld1 ls s c).2.L.length ≤ s.L.length + 1 := by
  unfold ld1
  split
  · simp
  · split
    · simp
    · split
      · simp
      · exact loadR_len _ _ _
theorem rdD_size {D : List Slot} (h : DevOk D) {k : Int} (hk : (rdD D k).2 = 0) : (rdD D k).1.size = 64 := by
  unfold rdD at *
  split at hk
  · rename_i hr
    rw [if_pos hr]
    have hlt : k.toNat < D.length := by rw [h.1]; omega
    show (D.getD k.toNat slot0).read.length = 64
    have hg : D.getD k.toNat slot0 = D[k.toNat] := by simp [List.getD, List.getElem?_eq_getElem hlt]
    rw [hg]; exact (h.at_ hlt).2
  · cases hk

section
variable {w W0 : World} {S S0 : Foot} {pb lb db tb fb : Nat} {ls : LineS} {s : PS} {l : List Asrt}

abbrev LP (pb lb db tb fb : Nat) (ls : LineS) (s : PS) : List Asrt := [At pb (PolO lb tb fb), Ded tb s.L s.nx, Spc fb s.f, Lin lb db ls]

theorem Lin.devOk (h : (Lin lb db ls).on w S) : DevOk ls.D := by
  obtain ⟨_, _, _, _, S3, h3, _⟩ := Lin.dev h
  exact (Dev.op (Own.of1 h3)).1

theorem o_load (h : Sep (LP pb lb db tb fb ls s) w S) (c : PC) (hid : 0 ≤ c.id ∧ c.id ≤ 4294967295) (hl : s.L.length < 1000) :
    Calls P F.«pool_Pool_load» ⟨[ptr pb, .agg ⟨encPC c⟩]⟩ w fun e w' => e = .returned (.int .i64 (ld1 ls s c).1) ∧ Own w S (LP pb lb db tb fb ls (ld1 ls s c).2) w' := by
  refine ok_pool_Pool_load ?_
  unfold V_pool_Pool_load
  refine (Own.of h).al fun u0 H wd hd => ?_
  have H := H.drew hd
  unfold ld1
  refine ⟨_, H.rd (i := 3) rfl, ?_⟩
  generalize hb0 : decide (c.size < 1) = b0
  refine bcase_mk (fun h0 => ?_) fun h0 => ⟨_, H.rd (i := 3) rfl, ?_⟩
  · have := of_decide_eq_true (hb0.trans h0)
    rw [if_pos (.inl this)]; exact ⟨rfl, H.front4⟩
  have h0 := of_decide_eq_false (hb0.trans h0)
  generalize hb1 : decide (c.size > 64) = b1
  refine bcase_mk (fun h1 => ?_) fun h1 => ?_
  · have := of_decide_eq_true (hb1.trans h1)
    rw [if_pos (.inr this)]; exact ⟨rfl, H.front4⟩
  have h1 := of_decide_eq_false (hb1.trans h1)
  rw [if_neg (by omega)]
  refine ⟨some ⟨fb, 0, none⟩, H.rd (i := 2) rfl, _, H.rd (i := 1) rfl, ?_⟩
  obtain ⟨S2, h2, back⟩ := H.foc2
  refine (p_Use h2 c.block).mono ?_
  rintro _ u1 ⟨rfl, h2⟩
  have H := (back _ _ _ h2).front5
  refine ⟨_, rfl, bcase_mk (fun hne => ?_) fun hz => fun wd2 hd2 => ?_⟩
  · have hne : (useR s.f c.block).1 ≠ 0 := by simpa using hne
    rw [if_pos hne]; exact ⟨rfl, H.front4⟩
  have hz : ¬ (useR s.f c.block).1 ≠ 0 := by simpa using hz
  rw [if_neg hz]
  have H := H.drew hd2
  refine ⟨some ⟨lb, 0, none⟩, H.rd (i := 0) rfl, _, H.rd (i := 1) rfl, ?_⟩
  obtain ⟨S3, h3⟩ := H.has i3
  refine (l_Read h3 c.block).mono ?_
  rintro _ _ ⟨rfl, rfl⟩
  refine ⟨_, _, rfl, bcase_mk (fun hne => ?_) fun hz2 => fun wd3 hd3 => ?_⟩
  · have hne : (lRead ls c.block).2 ≠ 0 := by simpa using hne
    rw [if_pos hne]; exact ⟨rfl, H.front4⟩
  have hz2 : (lRead ls c.block).2 = 0 := by simpa using hz2
  rw [if_neg (by simpa using hz2)]
  have H := H.drew hd3
  have hsz : (lRead ls c.block).1.size = 64 := by
    have hdo := Lin.devOk h3
    unfold lRead at hz2 ⊢
    split at hz2
    · cases hz2
    · rename_i hdn
      rw [if_neg hdn]
      exact rdD_size hdo hz2
  refine ⟨some ⟨tb, 0, none⟩, H.rd (i := 1) rfl, _, H.rd (i := 0) rfl, _, H.rd (i := 3) rfl, ⟨by omega, by omega, by rw [hsz]; omega⟩, _, H.rd (i := 1) rfl, _, H.rd (i := 2) rfl, ?_⟩
  obtain ⟨S4, h4, back⟩ := H.foc1
  have hex : ((lRead ls c.block).1.extract 0 c.size.toNat).size ≤ 64 := by rw [ByteArray.size_extract]; omega
  refine (t_Load h4 ⟨c.id, (lRead ls c.block).1.extract 0 c.size.toNat, c.block, c.refs⟩ (by show ((lRead ls c.block).1.extract 0 c.size.toNat).size ≤ 4294967296; omega) hid hl).mono ?_
  rintro _ u2 ⟨rfl, h5⟩
  have H := back _ _ _ h5
  refine ⟨_, rfl, bcase_mk (fun hne => ⟨?_, H.front4⟩) fun hz3 => ⟨?_, H.front4⟩⟩
  · have hne : (loadR s.L s.nx ⟨c.id, (lRead ls c.block).1.extract 0 c.size.toNat, c.block, c.refs⟩).1 ≠ 0 := by simpa using hne
    rw [if_pos hne]
  · have hz3 : (loadR s.L s.nx ⟨c.id, (lRead ls c.block).1.extract 0 c.size.toNat, c.block, c.refs⟩).1 = 0 := by simpa using hz3
    rw [if_neg (by simpa using hz3)]

theorem o_Load (h : (Lin lb db ls).on w S) {ca : Option Addr} {n cc : Nat} {cs : List PC} (hc : Src w 4 ca n cc (cs.flatMap encPC)) (hsep : ∀ a, ca = some a → cs ≠ [] → ¬ S a.block ∧ a.block < w.heap.size) (hl : cs.length ≤ 900) (hid : ∀ c ∈ cs, 0 ≤ c.id ∧ c.id ≤ 4294967295) (next : Int) (hn : 0 ≤ next ∧ next ≤ 4294967295) :
    Calls P F.«pool_Load» ⟨[ptr lb, .int .u32 next, .slice ca n cc]⟩ w fun e w' =>
      ((ldAll ls st0 cs).1 ≠ 0 ∧ e = .returned (.tuple ⟨[.pointer none, .int .i64 (ldAll ls st0 cs).1]⟩) ∧ Own w S [Lin lb db ls] w') ∨
      ((ldAll ls st0 cs).1 = 0 ∧ ∃ pb, e = .returned (.tuple ⟨[ptr pb, .int .i64 0]⟩) ∧ Own w S [Lin lb db ls, Pol pb lb (ldAll ls st0 cs).2.L (skipR (ldAll ls st0 cs).2.nx next) (ldAll ls st0 cs).2.f] w') := by
  refine ok_pool_Load ?_
  unfold V_pool_Load
  have hnn : cs.length = n := by have := hc.1; rw [flatPC_length] at this; omega
  subst hnn
  refine (o_Make h).mono ?_
  rintro _ u1 ⟨pb, rfl, H⟩
  obtain ⟨tb, fb, H⟩ := Pol.op H.up1
  have H : Own w S (LP pb lb db tb fb ls st0) u1 := H
  refine ⟨_, rfl, bcase_mk (fun h => by cases h) fun _ => ?_⟩
  refine ⟨fun p u => ∃ (i : Nat) (s : PS), p.1 = (i : Int) ∧ i ≤ cs.length ∧ s.L.length ≤ i ∧ ldAll ls st0 cs = ldAll ls s (cs.drop i) ∧ Own w S (LP pb lb db tb fb ls s) u, fun p _ => cs.length - p.1.toNat, ⟨0, st0, rfl, Nat.zero_le _, Nat.le_refl _, rfl, H⟩, ?_⟩
  rintro _ k u ⟨i, s, hk, hi, hsl, he, H⟩
  have hk : k = (i : Int) := hk
  subst hk
  generalize hbb : decide ((i : Int) < ((cs.length : Nat) : Int)) = bb
  refine bcase_mk (fun hlt => ?_) fun hge => ?_
  · have hlt : i < cs.length := by have := of_decide_eq_true (hbb.trans hlt); omega
    have hdr : cs.drop i = cs[i] :: cs.drop (i + 1) := List.drop_eq_getElem_cons hlt
    rw [hdr] at he
    have hc1 : Src u 4 ca cs.length cc (cs.flatMap encPC) := hc.keep H.keep fun a ha => (hsep a ha (List.ne_nil_of_length_pos (by omega))).1
    obtain ⟨x, hx, x0, x1, x2, x3⟩ := hc1.pc (i := i) (x := cs[i]) (List.getElem?_eq_getElem hlt)
    subst hx
    have wi : IntKind.wrap .i64 ((i : Int) + 1) = ((i + 1 : Nat) : Int) := by rw [wrap64 (by omega) (by omega)]; omega
    rw [wi]
    refine ⟨⟨by omega, by omega⟩, _, _, _, _, ⟨x0, x1, x2, x3, trivial⟩, H.al fun v H => H.st fun v H => H.st fun v H => H.st fun v H => H.st fun v1 H => ⟨_, _, _, _, ⟨H.rd (i := 0) rfl, H.rd (i := 1) rfl, H.rd (i := 2) rfl, H.rd (i := 3) rfl, trivial⟩, ?_⟩⟩
    have H := H.front4
    obtain ⟨S1, h1, back⟩ := H.all
    refine (o_load h1 cs[i] (hid _ (List.getElem_mem hlt)) (by omega)).mono ?_
    rintro _ u2 ⟨rfl, h2⟩
    have H := back _ _ h2
    refine ⟨_, rfl, bcase_mk (fun hne => ?_) fun hz => ⟨⟨i + 1, (ld1 ls s cs[i]).2, rfl, by omega, ?_, ?_, H⟩, by show cs.length - ((i + 1 : Nat) : Int).toNat < cs.length - ((i : Nat) : Int).toNat; omega⟩⟩
    · have hne : (ld1 ls s cs[i]).1 ≠ 0 := by simpa using hne
      have he : ldAll ls st0 cs = ld1 ls s cs[i] := by rw [he]; unfold ldAll; rw [if_pos hne]
      rw [he]
      exact .inl ⟨hne, rfl, (H.up3).front⟩
    · have := ld1_len ls s cs[i]; omega
    · have hz : ¬ (ld1 ls s cs[i]).1 ≠ 0 := by simpa using hz
      rw [he]; conv => lhs; unfold ldAll
      rw [if_neg hz]
  · have hie : i = cs.length := by have := of_decide_eq_false (hbb.trans hge); omega
    rw [hie, List.drop_length] at he
    have he : ldAll ls st0 cs = (0, s) := he
    rw [he]
    refine ⟨some ⟨tb, 0, none⟩, H.rd (i := 1) rfl, ?_⟩
    obtain ⟨S1, h1, back⟩ := H.foc1
    refine (t_Skip h1 next hn).mono ?_
    rintro _ u2 ⟨rfl, h2⟩
    have H := back _ _ _ h2
    exact ⟨rfl, .inr ⟨rfl, pb, rfl, (Pol.cl H.front4).up1⟩⟩
end
end Go.Proofs.YtgepmlgkeljelaaGreat.Vc
