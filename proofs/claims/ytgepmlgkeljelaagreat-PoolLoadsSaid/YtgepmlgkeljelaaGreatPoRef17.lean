/- The document's line and pool (revertref12, revertref17), as far as PoolLoads asks. -/
import Derived.Test.YtgepmlgkeljelaaGreatPoLoad
import Derived.Test.YtgepmlgkeljelaaGreatPoRef11
import Derived.Test.YtgepmlgkeljelaaGreatDdRefs
namespace Go.Proofs.YtgepmlgkeljelaaGreat.Vc
open Go Go.Proofs

/-- The document's table. -/
def Rt (b : Nat) (L : List Chk) (nx : Int) : Asrt where
  on w S := ∃ a c, RT w b a c L nx S
  loc h he hz := by
    obtain ⟨a, c, h⟩ := h
    exact ⟨a, c, h.same he hz⟩
  lt h hg := by
    obtain ⟨_, _, h⟩ := h
    exact h.lt _ hg
theorem RPost.own17 {w w' : World} {b : Nat} {S : Foot} {L : List Chk} {nx : Int} (h : RPost w b S L nx w') : Own w S [Rt b L nx] w' :=
  Own.mk1 (A := Rt b L nx) h.1 h.2 fun _ hg => hg.imp id (·.1)

abbrev RLinO (db : Nat) (v : Value) (s : LineS) : Obj := .cells ⟨[ptr db, .int .i64 s.cut, v, .int .i64 s.acts, .bool s.down]⟩ T.«revertref12_Line»
/-- The document's line; v: its choices. -/
def RLin (b db : Nat) (v : Value) (s : LineS) : Asrt := .sep [At b (RLinO db v s), RDev db s.D]
abbrev RPolO (lb tb : Nat) : Obj := .cells ⟨[ptr lb, ptr tb]⟩ T.«revertref17_Pool»
def RPool (pb lb : Nat) (L : List Chk) (nx : Int) : Asrt := .ex fun tb : Nat => .sep [At pb (RPolO lb tb), Rt tb L nx]

def blk (L : List Chk) (k : Nat) : Bool := L.any fun c => c.block == (k : Int)
def freeL (L : List Chk) : List Nat := (List.range' 128 128).filter fun k => !blk L k
def InvF (s : PS) : Prop := ∀ k, 128 ≤ k → k < 256 → s.f k = blk s.L k

theorem freeL_frees {s : PS} (h : InvF s) : (freeL s.L).length = frees s.f 256 := by
  have go : ∀ n, n ≤ 128 → ((List.range' 128 n).filter fun k => !blk s.L k).length = frees s.f (128 + n) := by
    intro n
    induction n with
    | zero => intro _; rw [frees_low s.f 128 (Nat.le_refl _)]; rfl
    | succ n ih =>
      intro hn
      rw [List.range'_1_concat, List.filter_append, List.length_append, ih (by omega)]
      show _ = frees s.f (128 + n) + (if 128 ≤ 128 + n ∧ s.f (128 + n) = false then 1 else 0)
      have := h (128 + n) (by omega) (by omega)
      rw [this]
      cases hb : blk s.L (128 + n) <;> simp [hb]
  exact go 128 (Nat.le_refl _)
theorem freeL_any {s : PS} (h : InvF s) (b : Int) : (freeL s.L).any (fun k => (k : Int) == b) = decide ((useR s.f b).1 = 0) := by
  unfold useR
  rw [Bool.eq_iff_iff, decide_eq_true_iff, List.any_eq_true]
  constructor
  · rintro ⟨k, hk, he⟩
    have he : (k : Int) = b := by simpa using he
    subst he
    obtain ⟨h1, h2⟩ := List.mem_filter.1 hk
    rw [List.mem_range'_1] at h1
    have h2 : blk s.L k = false := by simpa using h2
    rw [if_pos (by omega), Int.toNat_natCast, h k h1.1 (by omega), h2, if_neg (by simp)]
  · intro hz
    by_cases hr : 128 ≤ b ∧ b < 256
    · rw [if_pos hr] at hz
      cases hf : s.f b.toNat with
      | true => rw [hf, if_pos rfl] at hz; cases hz
      | false =>
        refine ⟨b.toNat, List.mem_filter.2 ⟨List.mem_range'_1.2 ⟨by omega, by omega⟩, ?_⟩, by simp; omega⟩
        have := h b.toNat (by omega) (by omega)
        rw [← this, hf]; rfl
    · rw [if_neg hr] at hz; cases hz
theorem blk_ins (x : Chk) (L : List Chk) (k : Nat) : blk (insC x L) k = (x.block == (k : Int) || blk L k) := by
  unfold blk
  rw [(insC_perm x L).any_eq]; rfl
theorem loadR_ok {L : List Chk} {nx : Int} {x : Chk} : (loadR L nx x).1 = 0 → (loadR L nx x).2.1 = insC x L := by
  unfold loadR
  iterate 8 (split; · intro h; cases h)
  intro _; rfl
theorem ld1_inv {ls : LineS} {s : PS} {c : PC} (h : InvF s) (h0 : (ld1 ls s c).1 = 0) : InvF (ld1 ls s c).2 := by
  unfold ld1 at *
  split at h0
  · cases h0
  · rename_i h1
    rw [if_neg h1]
    split at h0
    · cases h0
    · rename_i h2
      rw [if_neg h2]
      split at h0
      · rename_i h3; exact absurd h0 h3
      · rename_i h3
        rw [if_neg h3]
        have h4 : (loadR s.L s.nx ⟨c.id, (lRead ls c.block).1.extract 0 c.size.toNat, c.block, c.refs⟩).1 = 0 := by
          by_cases h4 : (loadR s.L s.nx ⟨c.id, (lRead ls c.block).1.extract 0 c.size.toNat, c.block, c.refs⟩).1 = 0
          · exact h4
          · simp only [ne_eq, h4, not_false_eq_true, if_true] at h0; cases h0
        intro k hk1 hk2
        show (useR s.f c.block).2 k = blk _ k
        rw [show ∀ P : PS, P.L = P.L from fun _ => rfl]
        show _ = blk (loadR s.L s.nx ⟨c.id, (lRead ls c.block).1.extract 0 c.size.toNat, c.block, c.refs⟩).2.1 k
        rw [loadR_ok h4, blk_ins]
        have h2 : (useR s.f c.block).1 = 0 := by simpa using h2
        unfold useR at *
        by_cases hr : 128 ≤ c.block ∧ c.block < 256
        · rw [if_pos hr] at h2 ⊢
          cases hf : s.f c.block.toNat with
          | true => rw [hf, if_pos rfl] at h2; cases h2
          | false =>
            rw [if_neg (by simp)]
            show (if k = c.block.toNat then true else s.f k) = (c.block == (k : Int) || blk s.L k)
            by_cases e : k = c.block.toNat
            · rw [if_pos e, show (c.block == (k : Int)) = true by simp; omega]; rfl
            · rw [if_neg e, show (c.block == (k : Int)) = false by simp; omega, h k hk1 hk2]; rfl
        · rw [if_neg hr] at h2; cases h2

section
variable {w W0 : World} {S S0 : Foot} {pb lb db tb : Nat} {v : Value} {ls : LineS} {L : List Chk} {nx : Int} {l : List Asrt}

theorem rl_Read (h : (RLin lb db v ls).on w S) (k : Int) : Calls P F.«revertref12_Line_Read» ⟨[ptr lb, .int .i64 k]⟩ w fun e w' => e = .returned (.tuple ⟨[.string (lRead ls k).1, .int .i64 (lRead ls k).2]⟩) ∧ Drew w w' := by
  refine ok_revertref12_Line_Read ?_
  unfold V_revertref12_Line_Read
  have H : Own w S [At lb (RLinO db v ls), RDev db ls.D] w := Own.opSep (l := []) (Own.of1 h)
  refine ⟨_, H.rd (i := 4) rfl, ?_⟩
  obtain ⟨D, cut, cs, acts, down⟩ := ls
  cases down with
  | true => exact bcase_mk (fun _ => ⟨rfl, Drew.refl _⟩) fun h => by cases h
  | false =>
    obtain ⟨S1, h1⟩ := H.has i1
    refine bcase_mk (fun h => by cases h) fun _ => ⟨some ⟨db, 0, none⟩, H.rd (i := 0) rfl, (rd_Read h1 k).mono ?_⟩
    rintro _ u ⟨rfl, hd⟩
    exact ⟨_, _, rfl, rfl, hd⟩

theorem rl_Write (h : (RLin lb db v ls).on w S) (hd : ls.down = false) (hc : ls.acts ≠ ls.cut) (k : Int) (d : ByteArray) : Calls P F.«revertref12_Line_Write» ⟨[ptr lb, .int .i64 k, .string d]⟩ w fun e w' =>
    (∃ n, e = .returned (.int .i64 n)) ∧ Own w S [RLin lb db v (lWrite ls k d).2] w' := by
  refine ok_revertref12_Line_Write ?_
  unfold V_revertref12_Line_Write
  have H : Own w S [At lb (RLinO db v ls), RDev db ls.D] w := Own.opSep (l := []) (Own.of1 h)
  refine ⟨_, H.rd (i := 4) rfl, ?_⟩
  obtain ⟨D, cut, cs, acts, down⟩ := ls
  have hd : down = false := hd
  subst hd
  have hc : acts ≠ cut := hc
  refine bcase_mk (fun h => by cases h) fun _ => ?_
  refine ok_revertref12_Line_counted ?_
  unfold V_revertref12_Line_counted
  refine ⟨_, H.rd (i := 3) rfl, _, H.rd (i := 3) rfl, H.st1 fun u1 H => ⟨_, H.rd (i := 1) rfl, _, rfl, ?_⟩⟩
  generalize hbb : (acts == cut) = bb
  have hbf : bb = false := by rw [← hbb]; simpa using hc
  subst hbf
  refine bcase_mk (fun _ => ⟨some ⟨db, 0, none⟩, H.rd (i := 0) rfl, ?_⟩) fun h => by cases h
  obtain ⟨S1, h1, back⟩ := H.foc1
  refine (rd_Write h1 k d).mono ?_
  rintro _ u2 ⟨rfl, h2⟩
  have H := (back _ _ _ h2).front2
  refine ⟨_, rfl, ⟨_, rfl⟩, ?_⟩
  have e : (lWrite ⟨D, cut, cs, acts, false⟩ k d).2 = ⟨(wrD D k d).2, cut, cs, IntKind.wrap .i64 (acts + 1), false⟩ := by unfold lWrite actR; simp [hc]
  rw [e]
  exact Own.mkSep (l1 := [At lb (RLinO db v ⟨(wrD D k d).2, cut, cs, IntKind.wrap .i64 (acts + 1), false⟩), RDev db (wrD D k d).2]) (l := []) H

theorem RT.rd {a : Option Addr} {c : Nat} (h : RT w tb a c L nx S) {i : Nat} {x : Chk} (hi : L[i]? = some x) : ∃ y, a = some y ∧ w.cell? ((y.add (i * 4)).add 0) = some (.int .u32 x.id) ∧ w.cell? ((y.add (i * 4)).add 1) = some (.string x.data) ∧ w.cell? ((y.add (i * 4)).add 2) = some (.int .i64 x.block) ∧ w.cell? ((y.add (i * 4)).add 3) = some (.int .i64 x.refs) := by
  obtain ⟨g, rfl, hc⟩ := h.cell hi
  exact ⟨_, rfl, hc 0 _ rfl, hc 1 _ rfl, hc 2 _ rfl, hc 3 _ rfl⟩

/-- The free blocks. -/
theorem r17_free {fa la : Option Addr} {fc n lc : Nat} {S1 : Foot} (hp : w.heap[pb]? = some (RPolO lb tb)) (ht : (Rt tb L nx).on w S1) (hl : w.heap[lb]? = some (RLinO db v ls)) (hdv : w.heap[db]? = some (RDevO fa fc la n lc)) (hL : L.length ≤ 1000) :
    Calls P F.«revertref17_Pool_free» ⟨[ptr pb]⟩ w fun e w' => ∃ a c, e = .returned (.slice a (freeL L).length c) ∧ Own w NoB [.sl T.«i64'» 1 a (freeL L).length c ((freeL L).map fun k : Nat => i64v (k : Int))] w' := by
  refine ok_revertref17_Pool_free ?_
  unfold V_revertref17_Pool_free
  have e1 : IntKind.wrap .i64 (Int.tdiv ((256 : Nat) : Int) 2) = ((128 : Nat) : Int) := by decide
  refine ⟨_, cell_at hp rfl, _, cell_at hl rfl, _, _, _, cell_at hdv rfl, by decide, ?_⟩
  rw [e1]
  let G : Nat → List Nat := fun j => (List.range' 128 j).filter fun k => !blk L k
  have hGl : ∀ j, (G j).length ≤ j := fun j => by have := List.length_filter_le (fun k => !blk L k) (List.range' 128 j); rwa [List.length_range'] at this
  refine ⟨fun p u => ∃ (j : Nat) (a : Option Addr) (c : Nat), p = ((a, (G j).length, c), ((128 + j : Nat) : Int), ()) ∧ j ≤ 128 ∧ Own w NoB [.sl T.«i64'» 1 a (G j).length c ((G j).map fun k : Nat => i64v (k : Int))] u, fun p _ => 256 - p.2.1.toNat, ⟨0, none, 0, rfl, Nat.zero_le _, (Own.nil w).nilRow _ _⟩, ?_⟩
  rintro _ a l c n5 u ⟨j, a', c', he, hj, H⟩
  simp only [Prod.mk.injEq, and_true] at he
  obtain ⟨⟨rfl, rfl, rfl⟩, rfl⟩ := he
  generalize hbb : decide (((128 + j : Nat) : Int) < ((256 : Nat) : Int)) = bb
  refine bcase_mk (fun hlt => ?_) fun hge => ?_
  · have hlt : j < 128 := by have := of_decide_eq_true (hbb.trans hlt); omega
    have wi : IntKind.wrap .i64 (((128 + j : Nat) : Int) + 1) = ((128 + (j + 1) : Nat) : Int) := by rw [wrap64 (by omega) (by omega)]; omega
    rw [wi]
    have hG : G (j + 1) = G j ++ (if blk L (128 + j) then [] else [128 + j]) := by
      simp only [G]
      rw [List.range'_1_concat, List.filter_append]
      cases hb : blk L (128 + j) <;> simp [hb]
    have dec : 256 - ((128 + (j + 1) : Nat) : Int).toNat < 256 - ((128 + j : Nat) : Int).toNat := by omega
    refine ⟨fun p u' => ∃ i : Nat, p.1 = (L.take i).any (fun x => x.block == ((128 + j : Nat) : Int)) ∧ p.2.1 = (i : Int) ∧ i ≤ L.length ∧ u' = u, fun p _ => L.length - p.2.1.toNat, ⟨0, rfl, rfl, Nat.zero_le _, rfl⟩, ?_⟩
    rintro _ b6 n7 _ ⟨i, hb6, hn7, hi, rfl⟩
    have hb6 : b6 = (L.take i).any (fun x => x.block == ((128 + j : Nat) : Int)) := hb6
    have hn7 : n7 = (i : Int) := hn7
    subst hn7
    replace hb6 : b6 = (L.take i).any (fun x => x.block == ((128 + j : Nat) : Int)) := hb6
    have hp2 := H.keep.at_ hp fun h => h
    obtain ⟨ta, tc, hT⟩ := (Rt tb L nx).loc ht (fun g hg => H.keep.block g ((Rt tb L nx).lt ht hg) fun h => h) H.size
    refine ⟨_, cell_at hp2 rfl, _, _, _, cell_at hT.at_ rfl, ?_⟩
    generalize hb2 : decide ((i : Int) < ((L.length : Nat) : Int)) = b2
    refine bcase_mk (fun hlt2 => ?_) fun hge2 => ?_
    · have hlt2 : i < L.length := by have := of_decide_eq_true (hb2.trans hlt2); omega
      have wi2 : IntKind.wrap .i64 ((i : Int) + 1) = ((i + 1 : Nat) : Int) := by rw [wrap64 (by omega) (by omega)]; omega
      rw [wi2]
      have dec2 : L.length - ((i + 1 : Nat) : Int).toNat < L.length - ((i : Nat) : Int).toNat := by omega
      have hany : (L.take (i + 1)).any (fun x => x.block == ((128 + j : Nat) : Int)) = (b6 || (L[i].block == ((128 + j : Nat) : Int))) := by
        rw [hb6, List.take_succ_eq_append_getElem hlt2, List.any_append]; simp
      refine bcase_mk (fun hbt => ⟨⟨i + 1, ?_, rfl, by omega, rfl⟩, dec2⟩) fun hbf => ⟨_, cell_at hp2 rfl, _, _, _, cell_at hT.at_ rfl, ⟨by omega, by omega⟩, ?_⟩
      · rw [hany, hbt]; rfl
      · obtain ⟨y, hy, _, _, y2, _⟩ := hT.rd (List.getElem?_eq_getElem hlt2)
        subst hy
        refine ⟨_, y2, ⟨i + 1, ?_, rfl, by omega, rfl⟩, dec2⟩
        rw [hany, hbf]; rfl
    · have hie : i = L.length := by have := of_decide_eq_false (hb2.trans hge2); omega
      rw [hie, List.take_length] at hb6
      have hb6 : b6 = blk L (128 + j) := hb6
      refine bcase_mk (fun hbt => ?_) fun hbf => ⟨⟨j + 1, a, c, ?_, by omega, ?_⟩, dec⟩
      · have hbt : blk L (128 + j) = false := by rw [← hb6]; simpa using hbt
        have e2 : G (j + 1) = G j ++ [128 + j] := by rw [hG, hbt]; rfl
        have := hGl j
        refine H.app1 (ty := T.«l_i64») i64Ok (v := .int .i64 ((128 + j : Nat) : Int)) rfl (fun u hu => by rw [List.mem_singleton.1 hu]; rfl) (by omega) (by omega) fun a2 c2 v2 H => ⟨⟨j + 1, a2, c2, ?_, by omega, ?_⟩, dec⟩
        · rw [e2, List.length_append]; rfl
        · rw [e2, List.length_append, List.map_append]; exact H
      · have hbf : blk L (128 + j) = true := by rw [← hb6]; simpa using hbf
        rw [hG, hbf]; simp
      · have hbf : blk L (128 + j) = true := by rw [← hb6]; simpa using hbf
        have e2 : G (j + 1) = G j := by rw [hG, hbf]; simp
        rw [e2]; exact H
  · have hje : j = 128 := by have := of_decide_eq_false (hbb.trans hge); omega
    subst hje
    exact ⟨a, c, rfl, H⟩
end
end Go.Proofs.YtgepmlgkeljelaaGreat.Vc
