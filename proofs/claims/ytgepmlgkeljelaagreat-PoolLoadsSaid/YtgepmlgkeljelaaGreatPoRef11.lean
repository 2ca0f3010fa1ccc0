/- The document's device (revertref11), as a part of memory that stands for the same blocks. -/
import Derived.Test.YtgepmlgkeljelaaGreatPoLine
import Derived.Test.YtgepmlgkeljelaaGreatPoSplit
namespace Go.Proofs.YtgepmlgkeljelaaGreat.Vc
open Go Go.Proofs

def bytesB (l : List UInt8) : ByteArray := ⟨l.toArray⟩
theorem bytesB_size (l : List UInt8) : (bytesB l).size = l.length := rfl
/-- The fresh blocks, from block k on. -/
def frs : List Slot → Nat → List (Int × ByteArray)
  | [], _ => []
  | s :: D, k => if s.fresh then ((k : Int), bytesB s.read) :: frs D (k + 1) else frs D (k + 1)
def encF (x : Int × ByteArray) : List Value := [.int .i64 x.1, .string x.2]
/-- What is not fresh is read as it is firm. -/
def Calm (D : List Slot) : Prop := ∀ s ∈ D, s.fresh = false → s.read = s.firm
abbrev RDevO (fa : Option Addr) (fc : Nat) (la : Option Addr) (n lc : Nat) : Obj := .cells ⟨[.slice fa 256 fc, .slice la n lc]⟩ T.«revertref11_Device»
def RDev (b : Nat) (D : List Slot) : Asrt := .ex fun fa : Option Addr => .ex fun fc : Nat => .ex fun la : Option Addr => .ex fun lc : Nat => .pure (DevOk D ∧ Calm D)
  (.sep [At b (RDevO fa fc la (frs D 0).length lc), .sl T.«string» 1 fa 256 fc (D.map fun s => strv (bytesB s.firm)), .sl T.«revertref11_Fresh» 2 la (frs D 0).length lc ((frs D 0).flatMap encF)])

theorem frs_append : ∀ (D E : List Slot) (k : Nat), frs (D ++ E) k = frs D k ++ frs E (k + D.length)
  | [], E, k => by simp [frs]
  | s :: D, E, k => by
    have ih := frs_append D E (k + 1)
    show (if s.fresh then ((k : Int), bytesB s.read) :: frs (D ++ E) (k + 1) else frs (D ++ E) (k + 1)) = (if s.fresh then ((k : Int), bytesB s.read) :: frs D (k + 1) else frs D (k + 1)) ++ frs E (k + (D.length + 1))
    rw [ih, show k + (D.length + 1) = k + 1 + D.length by omega]
    split <;> simp
theorem frs_lt : ∀ (D : List Slot) (k : Nat), ∀ x ∈ frs D k, (k : Int) ≤ x.1 ∧ x.1 < ((k + D.length : Nat) : Int)
  | [], _, x, h => by cases h
  | s :: D, k, x, h => by
    have ih := frs_lt D (k + 1)
    have go : ∀ x ∈ frs D (k + 1), (k : Int) ≤ x.1 ∧ x.1 < ((k + (s :: D).length : Nat) : Int) := fun x hx => by
      have := ih x hx; simp only [List.length_cons]; omega
    unfold frs at h
    split at h
    · rcases List.mem_cons.1 h with rfl | h
      · simp only [List.length_cons]; omega
      · exact go x h
    · exact go x h
theorem frs_len (D : List Slot) (k : Nat) : (frs D k).length ≤ D.length := by
  induction D generalizing k with
  | nil => exact Nat.le_refl _
  | cons s D ih =>
    unfold frs
    split
    · simp only [List.length_cons]; have := ih (k + 1); omega
    · simp only [List.length_cons]; have := ih (k + 1); omega
theorem frs_split {D : List Slot} {k : Nat} (hk : k < D.length) : frs D 0 = frs (D.take k) 0 ++ (if D[k].fresh then [((k : Int), bytesB D[k].read)] else []) ++ frs (D.drop (k + 1)) (k + 1) := by
  have h : D = D.take k ++ D[k] :: D.drop (k + 1) := by rw [← List.drop_eq_getElem_cons hk, List.take_append_drop]
  have h2 := congrArg (fun l => frs l 0) h
  simp only [frs_append] at h2
  rw [h2, List.length_take, Nat.min_eq_left (by omega), Nat.zero_add]
  show _ ++ (if D[k].fresh then _ else _) = _
  split <;> simp
theorem frs_set {D : List Slot} {k : Nat} (hk : k < D.length) {y : Slot} (hy : y.fresh = true) : frs (D.set k y) 0 = frs (D.take k) 0 ++ [((k : Int), bytesB y.read)] ++ frs (D.drop (k + 1)) (k + 1) := by
  have hk2 : k < (D.set k y).length := by rw [List.length_set]; exact hk
  rw [frs_split hk2, List.getElem_set_self, hy, if_pos rfl, List.take_set_of_le (Nat.le_refl _), List.drop_set_of_lt (by omega)]
theorem flatF_length (l : List (Int × ByteArray)) : (l.flatMap encF).length = l.length * 2 := by
  induction l with
  | nil => rfl
  | cons x l ih => rw [List.flatMap_cons, List.length_append, ih, List.length_cons]; show 2 + _ = _; omega
theorem flatF_at {xs : List (Int × ByteArray)} {i : Nat} {x : Int × ByteArray} (h : xs[i]? = some x) : (xs.flatMap encF)[i * 2]? = some (.int .i64 x.1) ∧ (xs.flatMap encF)[i * 2 + 1]? = some (.string x.2) := by
  induction xs generalizing i with
  | nil => simp at h
  | cons y xs ih =>
    cases i with
    | zero => simp at h; subst h; exact ⟨rfl, rfl⟩
    | succ i =>
      have h2 := ih (i := i) (by simpa using h)
      have g : ∀ k, ((y :: xs).flatMap encF)[2 + k]? = (xs.flatMap encF)[k]? := fun k => by
        rw [List.flatMap_cons, List.getElem?_append_right (by show 2 ≤ 2 + k; omega)]
        congr 1; show 2 + k - 2 = k; omega
      exact ⟨by rw [show (i + 1) * 2 = 2 + i * 2 by omega, g]; exact h2.1, by rw [show (i + 1) * 2 + 1 = 2 + (i * 2 + 1) by omega, g]; exact h2.2⟩
theorem encF_one (l : List (Int × ByteArray)) : ∀ u ∈ l.flatMap encF, u.oneCell' = true := by
  intro u hu
  obtain ⟨x, _, hx⟩ := List.mem_flatMap.1 hu
  simp only [encF, List.mem_cons, List.not_mem_nil, or_false] at hx
  rcases hx with rfl | rfl <;> rfl
theorem freshOk : ElemOk P T.«l_revertref11_Fresh» T.«revertref11_Fresh» 2 24 := ⟨Tryz.underlying132, infoOk (z := .agg ⟨[.int .i64 0, .string (bs [])]⟩) (by kernel_rfl) rfl, by decide⟩

section
variable {w W0 : World} {S S0 : Foot} {b : Nat} {D : List Slot} {l : List Asrt}

theorem RDev.op (H : Own W0 S0 (RDev b D :: l) w) : (DevOk D ∧ Calm D) ∧ ∃ g fc la lc, Own W0 S0 (At b (RDevO (some ⟨g, 0, none⟩) fc la (frs D 0).length lc) :: .sl T.«string» 1 (some ⟨g, 0, none⟩) 256 fc (D.map fun s => strv (bytesB s.firm)) :: .sl T.«revertref11_Fresh» 2 la (frs D 0).length lc ((frs D 0).flatMap encF) :: l) w := by
  obtain ⟨fa, H⟩ := H.opEx
  obtain ⟨fc, H⟩ := H.opEx
  obtain ⟨la, H⟩ := H.opEx
  obtain ⟨lc, H⟩ := H.opEx
  obtain ⟨hm, H⟩ := H.opPure
  have H := H.opSep
  obtain ⟨_, hs⟩ := H.has i1
  obtain ⟨g, rfl⟩ := hs.2.some (by omega)
  exact ⟨hm, g, fc, la, lc, H⟩
theorem RDev.cl {fa la : Option Addr} {fc lc : Nat} (hm : DevOk D ∧ Calm D) (H : Own W0 S0 (At b (RDevO fa fc la (frs D 0).length lc) :: .sl T.«string» 1 fa 256 fc (D.map fun s => strv (bytesB s.firm)) :: .sl T.«revertref11_Fresh» 2 la (frs D 0).length lc ((frs D 0).flatMap encF) :: l) w) : Own W0 S0 (RDev b D :: l) w :=
  Own.mkEx fa (Own.mkEx fc (Own.mkEx la (Own.mkEx lc (Own.mkPure hm (Own.mkSep H)))))

theorem rd_place {fa la : Option Addr} {fc lc : Nat} (hD : DevOk D) (ho : w.heap[b]? = some (RDevO fa fc la (frs D 0).length lc)) (hl : Sl w T.«revertref11_Fresh» 2 la (frs D 0).length lc ((frs D 0).flatMap encF)) {k : Nat} (hk : k < 256) :
    Calls P F.«revertref11_Device_place» ⟨[.pointer (some ⟨b, 0, none⟩), .int .i64 k]⟩ w fun e w' => e = .returned (.tuple ⟨[.int .i64 ((frs (D.take k) 0).length : Nat), .bool (D.getD k slot0).fresh]⟩) ∧ Drew w w' := by
  refine ok_revertref11_Device_place ?_
  unfold V_revertref11_Device_place
  have hkD : k < D.length := by rw [hD.1]; exact hk
  have hg : D.getD k slot0 = D[k] := by simp [List.getD, List.getElem?_eq_getElem hkD]
  have hsp := frs_split hkD
  have hp1 := frs_lt (D.take k) 0
  have hp3 := frs_lt (D.drop (k + 1)) (k + 1)
  have hpl : (frs (D.take k) 0).length ≤ (frs D 0).length := by rw [hsp]; simp
  have hlen : (frs D 0).length ≤ 256 := by have := frs_len D 0; rw [hD.1] at this; exact this
  have rd : ∀ (i : Nat) (x : Int × ByteArray), (frs D 0)[i]? = some x → ∃ y, la = some y ∧ w.cell? ((y.add (i * 2)).add 0) = some (.int .i64 x.1) := fun i x hx => by
    have hi := (List.getElem?_eq_some_iff.1 hx).1
    obtain ⟨g, rfl⟩ := hl.some (by omega)
    refine ⟨_, rfl, ?_⟩
    rw [add_mk, add_mk, Nat.zero_add, Nat.add_zero]
    exact (hl.cell (flatF_at hx).1).2
  have at1 : ∀ i, i < (frs (D.take k) 0).length → ∃ x, (frs D 0)[i]? = some x ∧ x.1 < (k : Int) := fun i hi => by
    refine ⟨(frs (D.take k) 0)[i], ?_, ?_⟩
    · rw [hsp, List.append_assoc, List.getElem?_append_left hi, List.getElem?_eq_getElem hi]
    · have := (hp1 _ (List.getElem_mem hi)).2
      rw [List.length_take] at this; omega
  have at2 : ∀ x, (frs D 0)[(frs (D.take k) 0).length]? = some x → (k : Int) ≤ x.1 ∧ (x.1 == (k : Int)) = D[k].fresh := fun x hx => by
    rw [hsp, List.append_assoc, List.getElem?_append_right (Nat.le_refl _), Nat.sub_self] at hx
    cases hf : D[k].fresh with
    | true =>
      rw [hf, if_pos rfl] at hx
      simp only [List.cons_append, List.getElem?_cons_zero, Option.some.injEq] at hx
      subst hx; simp
    | false =>
      rw [hf] at hx
      simp only [Bool.false_eq_true, if_false, List.nil_append] at hx
      have hm := List.mem_of_getElem? hx
      have := hp3 x hm
      refine ⟨by omega, ?_⟩
      have hne : x.1 ≠ (k : Int) := by omega
      simpa using hne
  refine ⟨fun p u => p.1 = ((frs (D.take k) 0).length : Int) ∧ u = w, ⟨fun p u => ∃ i : Nat, p.1 = (i : Int) ∧ i ≤ (frs (D.take k) 0).length ∧ u = w, fun p _ => (frs D 0).length - p.1.toNat, ⟨0, rfl, Nat.zero_le _, rfl⟩, ?_⟩, ?_⟩
  · rintro _ n _ ⟨i, hn, hi, rfl⟩
    have hn : n = (i : Int) := hn
    subst hn
    refine ⟨la, (frs D 0).length, lc, cell_at ho rfl, ?_⟩
    generalize hbb : decide ((i : Int) < (((frs D 0).length : Nat) : Int)) = bb
    refine bcase_mk (fun hlt => ⟨la, (frs D 0).length, lc, cell_at ho rfl, ?_⟩) fun hge => ?_
    · have hlt : i < (frs D 0).length := by have := of_decide_eq_true (hbb.trans hlt); omega
      refine ⟨⟨by omega, by omega⟩, ?_⟩
      obtain ⟨x, hx⟩ : ∃ x, (frs D 0)[i]? = some x := ⟨_, List.getElem?_eq_getElem hlt⟩
      obtain ⟨y, rfl, hc⟩ := rd i x hx
      refine ⟨x.1, hc, ?_⟩
      have wi : IntKind.wrap .i64 ((i : Int) + 1) = ((i + 1 : Nat) : Int) := by rw [wrap64 (by omega) (by omega)]; omega
      rw [wi]
      generalize hb2 : decide (x.1 < (k : Int)) = b2
      refine bcase_mk (fun h1 => ?_) fun h1 => ?_
      · have h1 := of_decide_eq_true (hb2.trans h1)
        have : i ≠ (frs (D.take k) 0).length := fun e => by
          subst e
          have := (at2 x hx).1; omega
        exact ⟨⟨i + 1, rfl, by omega, rfl⟩, by show (frs D 0).length - ((i + 1 : Nat) : Int).toNat < (frs D 0).length - ((i : Nat) : Int).toNat; omega⟩
      · have h1 := of_decide_eq_false (hb2.trans h1)
        refine ⟨?_, rfl⟩
        by_cases e : i < (frs (D.take k) 0).length
        · obtain ⟨x', hx', hlt'⟩ := at1 i e
          rw [hx] at hx'; cases hx'; omega
        · have : i = (frs (D.take k) 0).length := by omega
          rw [this]
    · have hge : i = (frs D 0).length := by have := of_decide_eq_false (hbb.trans hge); omega
      refine ⟨?_, rfl⟩
      have : i = (frs (D.take k) 0).length := by omega
      rw [this]
  · rintro _ n _ ⟨hn, rfl⟩
    have hn : n = ((frs (D.take k) 0).length : Int) := hn
    subst hn
    refine ⟨la, (frs D 0).length, lc, cell_at ho rfl, ?_⟩
    generalize hbb : decide ((((frs (D.take k) 0).length : Nat) : Int) < (((frs D 0).length : Nat) : Int)) = bb
    refine bcase_mk (fun hlt => ⟨la, (frs D 0).length, lc, cell_at ho rfl, ?_⟩) fun hge => fun wd hd => ⟨?_, hd⟩
    · have hlt : (frs (D.take k) 0).length < (frs D 0).length := by have := of_decide_eq_true (hbb.trans hlt); omega
      obtain ⟨x, hx⟩ : ∃ x, (frs D 0)[(frs (D.take k) 0).length]? = some x := ⟨_, List.getElem?_eq_getElem hlt⟩
      obtain ⟨y, rfl, hc⟩ := rd _ x hx
      refine ⟨⟨by omega, by omega⟩, x.1, hc, fun wd hd => ⟨?_, hd⟩⟩
      rw [(at2 x hx).2, hg]
    · have hge : (frs (D.take k) 0).length = (frs D 0).length := by have := of_decide_eq_false (hbb.trans hge); omega
      rw [hg]
      have hff : D[k].fresh = false := by
        cases hf : D[k].fresh with
        | false => rfl
        | true =>
          rw [hsp, hf, if_pos rfl] at hge
          simp at hge
      rw [hff]

theorem rd_Read (h : (RDev b D).on w S) (k : Int) : Calls P F.«revertref11_Device_Read» ⟨[.pointer (some ⟨b, 0, none⟩), .int .i64 k]⟩ w fun e w' => e = .returned (.tuple ⟨[.string (rdD D k).1, .int .i64 (rdD D k).2]⟩) ∧ Drew w w' := by
  refine ok_revertref11_Device_Read ?_
  unfold V_revertref11_Device_Read
  obtain ⟨⟨hD, hC⟩, g, fc, la, lc, H⟩ := RDev.op (Own.of1 h)
  unfold rdD
  generalize hb0 : decide (k < 0) = b0
  refine bcase_mk (fun h0 => ⟨?_, Drew.refl _⟩) fun h0 => ⟨_, _, _, H.rd (i := 0) rfl, ?_⟩
  · have := of_decide_eq_true (hb0.trans h0); rw [if_neg (by omega)]
  have h0 := of_decide_eq_false (hb0.trans h0)
  generalize hb1 : decide (k ≥ ((256 : Nat) : Int)) = b1
  refine bcase_mk (fun h1 => ⟨?_, Drew.refl _⟩) fun h1 => ?_
  · have := of_decide_eq_true (hb1.trans h1); rw [if_neg (by omega)]
  have h1 := of_decide_eq_false (hb1.trans h1)
  obtain ⟨j, rfl⟩ : ∃ j : Nat, k = (j : Int) := ⟨k.toNat, by omega⟩
  have hj : j < 256 := by omega
  have hjD : j < D.length := by rw [hD.1]; exact hj
  have hg : D.getD j slot0 = D[j] := by simp [List.getD, List.getElem?_eq_getElem hjD]
  rw [if_pos (by omega), Int.toNat_natCast, hg]
  obtain ⟨_, hl⟩ := H.has i2
  refine (rd_place hD H.ob hl.2 hj).mono ?_
  rintro _ u ⟨rfl, hd⟩
  have H := H.drew hd
  rw [hg]
  have hsp := frs_split hjD
  refine ⟨_, _, rfl, ?_⟩
  cases hf : D[j].fresh with
  | true =>
    refine bcase_mk (fun _ => ⟨_, _, _, H.rd (i := 1) rfl, ?_⟩) fun h => by cases h
    have hx : (frs D 0)[(frs (D.take j) 0).length]? = some ((j : Int), bytesB D[j].read) := by
      rw [hsp, hf, if_pos rfl, List.append_assoc, List.getElem?_append_right (Nat.le_refl _), Nat.sub_self]; rfl
    have hlt := (List.getElem?_eq_some_iff.1 hx).1
    obtain ⟨_, hl⟩ := H.has i2
    obtain ⟨g2, rfl⟩ := hl.2.some (by omega)
    refine ⟨⟨by omega, by omega⟩, bytesB D[j].read, ?_, rfl, hd⟩
    rw [add_mk, add_mk, Int.toNat_natCast, Nat.zero_add]
    exact (hl.2.cell (flatF_at hx).2).2
  | false =>
    refine bcase_mk (fun h => by cases h) fun _ => ⟨some ⟨g, 0, none⟩, 256, fc, H.rd (i := 0) rfl, ⟨by omega, by omega⟩, bytesB D[j].firm, ?_, ?_, hd⟩
    · obtain ⟨_, hl⟩ := H.has i1
      rw [add_mk, Nat.mul_one, Nat.zero_add]
      exact (hl.2.cell (by simp [List.getElem?_eq_getElem hjD])).2
    · rw [hC _ (List.getElem_mem hjD) hf]; rfl

theorem u8Sl : Tryz.prog.underlying T.«l_u8» = some (.slice T.«u8») := Tryz.underlying42
/-- string(make([]byte, k)) -/
theorem zeros_string {W0 : World} {S0 : Foot} {l : List Asrt} (H : Own W0 S0 l w) {n : Int} {k : Nat} (hn : n = (k : Int)) (hk : k ≤ 1000) {M : World → Prop} {K : ByteArray → World → Prop} (hm : ∀ u, Own W0 S0 l u → M u) (hk2 : ∀ u, Own W0 S0 l u → K (bytesB (List.replicate k 0)) u) :
    ∃ (a17 : Option Addr) (l17 c17 : Nat), ∃ w17, (Instr.makeSlice T.«l_u8» (.int .i64 n) (.int .i64 n)).run P w = .ok (.slice a17 l17 c17) w17 ∧ M w17 ∧
      ∃ s18 : ByteArray, ∃ w18, (convert T.«l_u8» T.«string» (.slice a17 l17 c17)).run P w17 = .ok (.string s18) w18 ∧ K s18 w18 := by
  obtain ⟨u, hr, nn⟩ := makeSlice_own (P := P) (w := w) (t := T.«l_u8») (e := T.«u8») (sz := 1) (bytes := 1) (z := .int .u8 0) Tryz.underlying42 (by kernel_rfl) rfl (by decide) (ln := k) (cn := k) hn hn (Nat.le_refl _) (by omega) (by omega)
  have H := H.quiet nn.keep
  have hlen : (List.replicate k (0 : UInt8)).length = k := List.length_replicate
  have hc := run_convert_bytes_back (P := P) u T.«l_u8» T.«string» T.«u8» ⟨w.heap.size, 0, none⟩ k (List.replicate k 0) Tryz.underlying42 Tryz.underlying5 Tryz.underlying9 (fun j hj => by
    refine cell_at nn.at_ ?_
    have hj : j < k := by simpa using hj
    rw [Nat.zero_add, Array.getElem?_map, Array.getElem?_range]
    simp [hj, Nat.mod_one, Value.cells])
  rw [hlen] at hc
  exact ⟨_, _, _, u, hr, hm u H, _, u, hc, hk2 u H⟩

theorem bytes_app (s : ByteArray) (k : Nat) : s ++ bytesB (List.replicate k 0) = bytesB (s.data.toList ++ List.replicate k 0) := by
  obtain ⟨⟨l⟩⟩ := s
  apply ByteArray.ext
  simp [bytesB]

theorem rd_Write (h : (RDev b D).on w S) (k : Int) (s : ByteArray) : Calls P F.«revertref11_Device_Write» ⟨[.pointer (some ⟨b, 0, none⟩), .int .i64 k, .string s]⟩ w fun e w' => e = .returned (.int .i64 (wrD D k s).1) ∧ Own w S [RDev b (wrD D k s).2] w' := by
  refine ok_revertref11_Device_Write ?_
  unfold V_revertref11_Device_Write
  obtain ⟨⟨hD, hC⟩, g, fc, la, lc, H⟩ := RDev.op (Own.of1 h)
  unfold wrD
  generalize hb0 : decide (k < 0) = b0
  refine bcase_mk (fun h0 => ?_) fun h0 => ⟨_, _, _, H.rd (i := 0) rfl, ?_⟩
  · have := of_decide_eq_true (hb0.trans h0); rw [if_neg (by omega)]
    exact ⟨rfl, RDev.cl ⟨hD, hC⟩ H⟩
  have h0 := of_decide_eq_false (hb0.trans h0)
  generalize hb1 : decide (k ≥ ((256 : Nat) : Int)) = b1
  refine bcase_mk (fun h1 => ?_) fun h1 => ?_
  · have := of_decide_eq_true (hb1.trans h1); rw [if_neg (by omega)]
    exact ⟨rfl, RDev.cl ⟨hD, hC⟩ H⟩
  have h1 := of_decide_eq_false (hb1.trans h1)
  obtain ⟨j, rfl⟩ : ∃ j : Nat, k = (j : Int) := ⟨k.toNat, by omega⟩
  have hj : j < 256 := by omega
  have hjD : j < D.length := by rw [hD.1]; exact hj
  have hg : D.getD j slot0 = D[j] := by simp [List.getD, List.getElem?_eq_getElem hjD]
  rw [if_pos (by omega), Int.toNat_natCast, hg]
  generalize hb2 : decide ((s.size : Int) > 64) = b2
  refine bcase_mk (fun h2 => ?_) fun h2 => ?_
  · have := of_decide_eq_true (hb2.trans h2); rw [if_pos (by omega)]
    exact ⟨rfl, RDev.cl ⟨hD, hC⟩ H⟩
  have hs : s.size ≤ 64 := by have := of_decide_eq_false (hb2.trans h2); omega
  rw [if_neg (by omega)]
  obtain ⟨_, hl⟩ := H.has i2
  refine (rd_place hD H.ob hl.2 hj).mono ?_
  rintro _ u ⟨rfl, hd⟩
  have H := H.drew hd
  have hl := hl.2.same (u := u) fun g _ => by rw [hd.heap]
  rw [hg]
  have hsp := frs_split hjD
  have hset := frs_set hjD (y := wrS D[j] s) rfl
  have hlen : (frs D 0).length ≤ 256 := by have := frs_len D 0; rw [hD.1] at this; exact this
  have hok : (wrS D[j] s).ok := ⟨(hD.at_ hjD).1, by simp [wrS]; show s.size + (64 - s.size) = 64; omega⟩
  have hD' : DevOk (D.set j (wrS D[j] s)) := hD.set hok
  have hC' : Calm (D.set j (wrS D[j] s)) := fun x hx hf => by
    rcases List.mem_or_eq_of_mem_set hx with h | rfl
    · exact hC x h hf
    · cases hf
  have hfirm : (D.set j (wrS D[j] s)).map (fun s => strv (bytesB s.firm)) = D.map fun s => strv (bytesB s.firm) := by
    rw [List.map_set]
    apply List.ext_getElem?
    intro i
    rw [List.getElem?_set]
    split
    · rename_i e; subst e; simp [hjD, wrS]
    · rfl
  generalize hA : frs (D.take j) 0 = A at *
  generalize hB : frs (D.drop (j + 1)) (j + 1) = B at *
  have hAl : A.length ≤ (frs D 0).length := by rw [hsp]; simp
  have hle := hl.le
  refine ⟨_, _, rfl, _, _, _, H.rd (i := 1) rfl, ⟨by omega, by omega, by omega, by omega⟩, ?_⟩
  refine (H.nilRow T.«revertref11_Fresh» 2).appSrc (ty := T.«l_revertref11_Fresh») freshOk (hl.src (lo := 0) (hi := A.length) (Nat.zero_le _) hAl) (fun v hv => encF_one _ v (List.mem_of_mem_drop (List.mem_of_mem_take hv))) (by omega) fun a1 c1 u1 H => ?_
  have e0 : [] ++ (((frs D 0).flatMap encF).drop (0 * 2)).take ((A.length - 0) * 2) = A.flatMap encF := by
    rw [List.nil_append, Nat.zero_mul, List.drop_zero, Nat.sub_zero, hsp, List.flatMap_append, List.flatMap_append, List.append_assoc, ← flatF_length A, List.take_left]
  rw [e0] at H
  have wz : IntKind.wrap .i64 (64 - (s.size : Int)) = ((64 - s.size : Nat) : Int) := by rw [wrap64 (by omega) (by omega)]; omega
  have hz := zeros_string H wz (by omega) (M := fun _ => True) (K := fun s45 w45 => ((s.size + s45.size : Nat) : Int) ≤ 9223372036854775807 ∧ s45 = bytesB (List.replicate (64 - s.size) 0) ∧ Own w S (.sl T.«revertref11_Fresh» 2 a1 (0 + (A.length - 0)) c1 (A.flatMap encF) :: At b (RDevO (some ⟨g, 0, none⟩) fc la (frs D 0).length lc) :: .sl T.«string» 1 (some ⟨g, 0, none⟩) 256 fc (D.map fun s => strv (bytesB s.firm)) :: .sl T.«revertref11_Fresh» 2 la (frs D 0).length lc ((frs D 0).flatMap encF) :: []) w45) (fun _ _ => trivial) fun u2 H => ⟨by
    rw [bytesB_size, List.length_replicate]; omega, rfl, H⟩
  obtain ⟨a2, l2, c2, u2, hr2, _, s45, u3, hr3, hsz, rfl, H⟩ := hz
  refine ⟨a2, l2, c2, u2, hr2, _, u3, hr3, hsz, ?_⟩
  rw [bytes_app]
  have hl3 : Sl u3 T.«revertref11_Fresh» 2 la (frs D 0).length lc ((frs D 0).flatMap encF) := by
    obtain ⟨_, h⟩ := H.has i3
    exact h.2
  refine H.app1 (ty := T.«l_revertref11_Fresh») freshOk (v := .agg ⟨encF ((j : Int), bytesB (s.data.toList ++ List.replicate (64 - s.size) 0))⟩) rfl (fun v hv => encF_one [((j : Int), bytesB (s.data.toList ++ List.replicate (64 - s.size) 0))] v (by simpa [Value.cells] using hv)) (by omega) (by omega) fun a4 c4 u4 H => ?_
  obtain ⟨_, hl4⟩ := H.has i3
  have last : ∀ (lo : Nat), lo ≤ (frs D 0).length → (frs D 0).drop lo = B → ∀ {v : World} {a5 : Option Addr} {n5 c5 : Nat}, n5 = A.length + 1 + ((frs D 0).length - lo) → Own w S (.sl T.«revertref11_Fresh» 2 a5 n5 c5 (A.flatMap encF ++ (Value.agg ⟨encF ((j : Int), bytesB (s.data.toList ++ List.replicate (64 - s.size) 0))⟩).cells.toList ++ (((frs D 0).flatMap encF).drop (lo * 2)).take (((frs D 0).length - lo) * 2)) :: At b (.cells ⟨[.slice (some ⟨g, 0, none⟩) 256 fc, .slice a5 n5 c5]⟩ T.«revertref11_Device») :: .sl T.«string» 1 (some ⟨g, 0, none⟩) 256 fc (D.map fun s => strv (bytesB s.firm)) :: .sl T.«revertref11_Fresh» 2 la (frs D 0).length lc ((frs D 0).flatMap encF) :: []) v → Own w S [RDev b (D.set j (wrS D[j] s))] v := by
    intro lo hlo hdrop v a5 n5 c5 hn H
    have hBl : B.length = (frs D 0).length - lo := by rw [← hdrop, List.length_drop]
    have e1 : (((frs D 0).flatMap encF).drop (lo * 2)).take (((frs D 0).length - lo) * 2) = B.flatMap encF := by
      have e2 : (frs D 0).flatMap encF = ((frs D 0).take lo).flatMap encF ++ ((frs D 0).drop lo).flatMap encF := by rw [← List.flatMap_append, List.take_append_drop]
      have e3 : (((frs D 0).take lo).flatMap encF).length = lo * 2 := by rw [flatF_length, List.length_take, Nat.min_eq_left hlo]
      rw [e2, ← e3, List.drop_left, hdrop, ← hBl, ← flatF_length B, List.take_length]
    rw [e1] at H
    have e4 : (frs (D.set j (wrS D[j] s)) 0).flatMap encF = A.flatMap encF ++ (Value.agg ⟨encF ((j : Int), bytesB (s.data.toList ++ List.replicate (64 - s.size) 0))⟩).cells.toList ++ B.flatMap encF := by
      rw [hset]; simp [List.flatMap_append, Value.cells, wrS]
    have e5 : (frs (D.set j (wrS D[j] s)) 0).length = n5 := by rw [hset, hn, ← hBl]; simp; omega
    rw [← e4, ← e5] at H
    have H := (H.up1).up2.up1
    have H := RDev.cl (fa := some ⟨g, 0, none⟩) (fc := fc) (la := a5) (lc := c5) (l := [.sl T.«revertref11_Fresh» 2 la (frs D 0).length lc ((frs D 0).flatMap encF)]) ⟨hD', hC'⟩ (by rw [hfirm]; exact H)
    exact H.front
  have wj : IntKind.wrap .i64 (((A.length : Nat) : Int) + 1) = ((A.length + 1 : Nat) : Int) := by rw [wrap64 (by omega) (by omega)]; omega
  cases hf : D[j].fresh with
  | true =>
    rw [hf, if_pos rfl] at hsp
    have hlo : A.length + 1 ≤ (frs D 0).length := by rw [hsp]; simp
    refine bcase_mk (fun _ => ⟨_, _, _, H.rd (i := 1) rfl, ?_⟩) fun h => by cases h
    rw [wj]
    refine ⟨⟨by omega, by omega, by omega, by omega⟩, ?_⟩
    refine H.appSrc (ty := T.«l_revertref11_Fresh») freshOk (hl4.2.src (lo := A.length + 1) (hi := (frs D 0).length) hlo (Nat.le_refl _)) (fun v hv => encF_one _ v (List.mem_of_mem_drop (List.mem_of_mem_take hv))) (by omega) fun a5 c5 u5 H => ?_
    refine H.st1 fun u6 H => ⟨rfl, ?_⟩
    refine last (A.length + 1) hlo ?_ (by omega) H
    rw [hsp, List.drop_left' (by simp)]
  | false =>
    rw [hf] at hsp
    simp only [Bool.false_eq_true, if_false, List.append_nil] at hsp
    refine bcase_mk (fun h => by cases h) fun _ => ⟨_, _, _, H.rd (i := 1) rfl, ?_⟩
    refine ⟨⟨by omega, by omega, by omega, by omega⟩, ?_⟩
    refine H.appSrc (ty := T.«l_revertref11_Fresh») freshOk (hl4.2.src (lo := A.length) (hi := (frs D 0).length) hAl (Nat.le_refl _)) (fun v hv => encF_one _ v (List.mem_of_mem_drop (List.mem_of_mem_take hv))) (by omega) fun a5 c5 u5 H => ?_
    refine H.st1 fun u6 H => ⟨rfl, ?_⟩
    refine last A.length hAl ?_ (by omega) H
    rw [hsp, List.drop_left]

def z64 : ByteArray := bytesB (List.replicate 64 0)
theorem frs_none : ∀ (n k : Nat), frs (List.replicate n slot0) k = []
  | 0, _ => rfl
  | n + 1, k => by rw [List.replicate_succ]; exact frs_none n (k + 1)
theorem rd_New (w : World) : Calls P F.«revertref11_New» ⟨[.int .i64 256]⟩ w fun e w' => ∃ b, e = .returned (.pointer (some ⟨b, 0, none⟩)) ∧ Own w NoB [RDev b (List.replicate 256 slot0)] w' := by
  refine ok_revertref11_New ?_
  unfold V_revertref11_New
  refine alloc_step fun u0 n0 => ?_
  have H := (Own.new n0).nilRow T.«string» 1
  refine ⟨fun p u => ∃ (i : Nat) (a : Option Addr) (c : Nat), p.1 = (i : Int) ∧ i ≤ 256 ∧ Own w NoB [.sl T.«string» 1 a i c ((List.replicate i z64).map strv), At w.heap.size (.cells ⟨[.slice a i c, .slice none 0 0]⟩ T.«revertref11_Device»)] u, fun p _ => 256 - p.1.toNat, ⟨0, none, 0, rfl, Nat.zero_le _, H⟩, ?_⟩
  rintro _ n u ⟨i, a, c, hn, hi, H⟩
  have hn : n = (i : Int) := hn
  subst hn
  generalize hbb : decide ((i : Int) < 256) = bb
  refine bcase_mk (fun hlt => fun wd hd => ?_) fun hge => ?_
  · have hlt : i < 256 := by have := of_decide_eq_true (hbb.trans hlt); omega
    have H := H.drew hd
    have wi : IntKind.wrap .i64 ((i : Int) + 1) = ((i + 1 : Nat) : Int) := by rw [wrap64 (by omega) (by omega)]; omega
    rw [wi]
    refine ⟨_, _, _, H.rd (i := 0) rfl, ?_⟩
    have hz := zeros_string H (n := 64) (k := 64) rfl (by omega) (M := fun w17 => ∃ (a16_3 : Option Addr) (l16_3 c16_3 : Nat), w17.cell? ((⟨w.heap.size, 0, none⟩ : Addr).add 0) = some (.slice a16_3 l16_3 c16_3) ∧ (.slice a16_3 l16_3 c16_3 : Value) = (.slice a i c)) (K := fun s18 w18 => s18 = z64 ∧ Own w NoB [.sl T.«string» 1 a i c ((List.replicate i z64).map strv), At w.heap.size (.cells ⟨[.slice a i c, .slice none 0 0]⟩ T.«revertref11_Device»)] w18) (fun u H => ⟨_, _, _, H.rd (i := 0) rfl, rfl⟩) fun u H => ⟨rfl, H⟩
    obtain ⟨a2, l2, c2, u2, hr2, hm, s18, u3, hr3, rfl, H⟩ := hz
    refine ⟨a2, l2, c2, u2, hr2, hm, z64, u3, hr3, ⟨_, _, _, H.rd (i := 0) rfl, rfl⟩, ?_⟩
    refine H.app1m (ty := T.«l_string») strOk (v := .string z64) rfl (fun u hu => by rw [List.mem_singleton.1 hu]; rfl) (by omega) (by omega) (fun u H => ⟨_, _, _, H.rd (i := 0) rfl, rfl⟩) fun a4 c4 u4 H => H.st1 fun u5 H => ⟨⟨i + 1, a4, c4, rfl, by omega, ?_⟩, by show 256 - ((i + 1 : Nat) : Int).toNat < 256 - ((i : Nat) : Int).toNat; omega⟩
    rw [List.replicate_succ', List.map_append]
    exact H
  · have hge : i = 256 := by have := of_decide_eq_false (hbb.trans hge); omega
    subst hge
    have hall : ∀ s ∈ List.replicate 256 slot0, s = slot0 := fun s hs => (List.mem_replicate.1 hs).2
    refine ⟨w.heap.size, rfl, RDev.cl (fa := a) (fc := c) (la := none) (lc := 0) ⟨⟨List.length_replicate, fun s hs => by rw [hall s hs]; exact ⟨List.length_replicate, List.length_replicate⟩⟩, fun s hs _ => by rw [hall s hs]; rfl⟩ ?_⟩
    rw [frs_none]
    have H := (H.nilRow T.«revertref11_Fresh» 2).up2
    have e : (List.replicate 256 slot0).map (fun s => strv (bytesB s.firm)) = (List.replicate 256 z64).map strv := by rw [List.map_replicate, List.map_replicate]; rfl
    rw [e]
    exact (H.up2).dn1
end
end Go.Proofs.YtgepmlgkeljelaaGreat.Vc
