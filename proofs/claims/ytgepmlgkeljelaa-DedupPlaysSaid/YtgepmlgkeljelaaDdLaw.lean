/- The law's functions: works, few, one, alike. -/
import Derived.Test.YtgepmlgkeljelaaDdCopy
import Derived.Laws.StructEq
namespace Go.Proofs.Ytgepmlgkeljelaa.Vc
open Go Go.Proofs

/-! ### works -/
theorem DT.lt {w : World} {b : Nat} {L : List Chk} {nx : Int} {S : Nat → Prop} (h : DT w b L nx S) : ∀ g, S g → g < w.heap.size := by
  obtain ⟨_, _, _, _, h⟩ := h; exact h.lt
theorem DT.len {w : World} {b : Nat} {L : List Chk} {nx : Int} {S : Nat → Prop} (h : DT w b L nx S) : L.length ≤ 1000 := by
  obtain ⟨_, _, _, _, h⟩ := h; exact h.len

section
variable {w : World} {b bm bi : Nat} {sl : SlT} {L : List Chk} {nx : Int} {S SI : Nat → Prop}

theorem c_adds (h : DP w b bm bi sl L nx S SI) (d : ByteArray) (blk want : Int) (hs : d.size ≤ 4294967296) (hlen : L.length < 1000) (h1 : (addR L nx d blk).1 = (want, 0)) :
    Calls P F.«revertlaw16_adds» ⟨[.pointer (some ⟨b, 0, none⟩), .string d, .int .i64 blk, .int .u32 want]⟩ w fun e w' => e = .returned (.bool true) ∧ DPost w b S (addR L nx d blk).2.1 (addR L nx d blk).2.2 w' := by
  refine ok_revertlaw16_adds ((c_Add h d blk hs hlen).mono ?_)
  rintro _ w1 ⟨rfl, h2⟩
  rw [h1]
  exact ⟨_, _, rfl, bcase_mk (fun _ => ⟨rfl, h2⟩) (fun hb => by simp at hb)⟩

theorem c_refused (h : DP w b bm bi sl L nx S SI) (d : ByteArray) (want : Int) (hs : d.size ≤ 4294967296) (hlen : L.length < 1000) (h1 : (addR L nx d 0).1 = (0, want)) :
    Calls P F.«revertlaw16_refused» ⟨[.pointer (some ⟨b, 0, none⟩), .string d, .int .i64 want]⟩ w fun e w' => e = .returned (.bool true) ∧ DPost w b S (addR L nx d 0).2.1 (addR L nx d 0).2.2 w' := by
  refine ok_revertlaw16_refused ((c_Add h d 0 hs hlen).mono ?_)
  rintro _ w1 ⟨rfl, h2⟩
  rw [h1]
  exact ⟨_, _, rfl, bcase_mk (fun _ => ⟨by simp, h2⟩) (fun hb => by simp at hb)⟩

theorem c_finds (h : DP w b bm bi sl L nx S SI) (d : ByteArray) (want : Int) (hs : d.size ≤ 4294967296) (h1 : oId (getD L d) = want) (h2 : (getD L d).isSome = decide (want > 0)) :
    Calls P F.«revertlaw16_finds» ⟨[.pointer (some ⟨b, 0, none⟩), .string d, .int .u32 want]⟩ w fun e w' => e = .returned (.bool true) ∧ Keep NoB w w' := by
  refine ok_revertlaw16_finds ((c_Find h d hs).mono ?_)
  rintro _ w1 ⟨rfl, k⟩
  rw [h1, h2]
  exact ⟨_, _, rfl, bcase_mk (fun _ => ⟨by simp, k⟩) (fun hb => by simp at hb)⟩
end

theorem wk_a2 : addR [⟨1, bs [97, 98], 7, 1⟩] 2 (bs [99, 100]) 8 = ((2, 0), ([⟨1, bs [97, 98], 7, 1⟩, ⟨2, bs [99, 100], 8, 1⟩], 3)) := by
  have hf : findI [⟨1, bs [97, 98], 7, 1⟩] (bs [99, 100]) = -1 := by simp [findI, List.findIdx?_cons]
  simp only [addR, hf]; rfl
theorem wk_a3 : addR [⟨1, bs [97, 98], 7, 1⟩, ⟨2, bs [99, 100], 8, 1⟩] 3 (bs [97, 98]) 0 = ((0, 6), ([⟨1, bs [97, 98], 7, 1⟩, ⟨2, bs [99, 100], 8, 1⟩], 3)) := by
  have hf : findI [⟨1, bs [97, 98], 7, 1⟩, ⟨2, bs [99, 100], 8, 1⟩] (bs [97, 98]) = 0 := by simp [findI, List.findIdx?_cons]
  simp only [addR, hf]; rfl
theorem wk_g1 : getD [⟨1, bs [97, 98], 7, 1⟩, ⟨2, bs [99, 100], 8, 1⟩] (bs [97, 98]) = some ⟨1, bs [97, 98], 7, 1⟩ := by simp [getD]
theorem wk_g2 : getD [⟨1, bs [97, 98], 7, 1⟩, ⟨2, bs [99, 100], 8, 1⟩] (bs [120]) = none := by simp [getD]

theorem c_works (w : World) : Calls P F.«revertlaw16_works» ⟨[]⟩ w fun e w' => e = .returned (.bool true) ∧ Keep NoB w w' := by
  refine ok_revertlaw16_works ((c_New w).mono ?_)
  rintro _ w1 ⟨b, rfl, k1, hb, bm, bi, sl, SI, h1⟩
  have hlt1 : ∀ g, g < w.heap.size → ¬ Ext NoB w w1 g := fun g hg hx => by
    rcases hx with hx | hx
    · exact hx
    · omega
  have a1 : addR [] 1 (bs [97, 98]) 7 = ((1, 0), ([⟨1, bs [97, 98], 7, 1⟩], 2)) := rfl
  have a2 := wk_a2
  have a3 := wk_a3
  refine ⟨_, rfl, (c_adds h1 (bs [97, 98]) 7 1 (by decide) (by decide) (by rw [a1])).mono ?_⟩
  rintro _ w2 ⟨rfl, k2, h2⟩
  rw [a1] at h2
  obtain ⟨bm2, bi2, sl2, SI2, h2⟩ := h2
  refine ⟨_, rfl, bcase_mk (fun _ => (c_adds h2 (bs [99, 100]) 8 2 (by decide) (by decide) (by rw [a2])).mono ?_) (fun hb => by cases hb)⟩
  rintro _ w3 ⟨rfl, k3, h3⟩
  rw [a2] at h3
  obtain ⟨bm3, bi3, sl3, SI3, h3⟩ := h3
  refine ⟨_, rfl, bcase_mk (fun _ => (c_refused h3 (bs [97, 98]) 6 (by decide) (by decide) (by rw [a3])).mono ?_) (fun hb => by cases hb)⟩
  rintro _ w4 ⟨rfl, k4, h4⟩
  rw [a3] at h4
  obtain ⟨bm4, bi4, sl4, SI4, h4⟩ := h4
  refine ⟨_, rfl, bcase_mk (fun _ => (c_finds h4 (bs [97, 98]) 1 (by decide) (by rw [wk_g1]; rfl) (by rw [wk_g1]; rfl)).mono ?_) (fun hb => by cases hb)⟩
  rintro _ w5 ⟨rfl, k5⟩
  have h5 := h4.keep k5 fun _ _ h => h
  refine ⟨_, rfl, bcase_mk (fun _ => (c_finds h5 (bs [120]) 0 (by decide) (by rw [wk_g2]; rfl) (by rw [wk_g2]; rfl)).mono ?_) (fun hb => by cases hb)⟩
  rintro _ w6 ⟨rfl, k6⟩
  have h6 := h5.keep k6 fun _ _ h => h
  refine ⟨_, rfl, bcase_mk (fun _ => (c_Count h6).mono ?_) (fun hb => by cases hb)⟩
  rintro _ _ ⟨rfl, rfl⟩
  have e2 : ∀ g, g < w.heap.size → ¬ Ext (Ext NoB w w1) w1 w2 g := fun g hg hx => by
    rcases hx with hx | hx
    · exact hlt1 g hg hx
    · have := k1.size; omega
  have e3 : ∀ g, g < w.heap.size → ¬ Ext (Ext (Ext NoB w w1) w1 w2) w2 w3 g := fun g hg hx => by
    rcases hx with hx | hx
    · exact e2 g hg hx
    · have := k1.size; have := k2.size; omega
  refine ⟨_, rfl, rfl, ((((k1.trans k2 fun g hg hx => absurd hx (hlt1 g hg)).trans k3 fun g hg hx => absurd hx (e2 g hg)).trans k4 fun g hg hx => absurd hx (e3 g hg)).trans k5 fun _ _ h => h).trans k6 fun _ _ h => h⟩

/-! ### Two chunks compared -/
theorem neq_chunk (w : World) (c : Chk) : eqlRun P .neq T.«revertref16_Chunk» (.agg ⟨encC c⟩) (.agg ⟨encC c⟩) w false := by
  intro xo yo w' _
  have hS : P.underlying T.«revertref16_Chunk» = some (.struct (P.fieldsOf T.«revertref16_Chunk»)) := by kernel_rfl
  have hp : P.stoodInHeld T.«revertref16_Chunk» = false := by kernel_rfl
  have hg : P.eqGuardType P.depth T.«revertref16_Chunk» = false := by kernel_rfl
  have u3 := Try.underlying3
  have u9 := Try.underlying9
  have u29 := Try.underlying29
  have a3 := Try.isAgg3
  have a9 := Try.isAgg9
  have a29 := Try.isAgg29
  have z3 := Try.sizeOf3
  have z9 := Try.sizeOf9
  have z29 := Try.sizeOf29
  rw [Sem.run_bind, run_eqGuard_agg _ _ _ _ _ _ _ hg]
  simp only [Result.andThen]
  rw [run_neq_struct, show (10000 : Nat) = 9999 + 1 from rfl, run_equalIn_agg w' 9999 _ _ _ hS hp]
  simp only [Program.fieldsOf, Try.underlying68, encC]
  go_simp

section
variable {w : World} {b bm bi : Nat} {sl : SlT} {L : List Chk} {nx : Int} {S SI : Nat → Prop}

theorem q_Count (h : DP w b bm bi sl L nx S SI) : qcall P F.«dedup_Table_Count» ⟨[.pointer (some ⟨b, 0, none⟩)]⟩ w (.int .i64 (L.length : Nat)) := fun n => (c_Count (h.drew ⟨n, rfl⟩)).mono fun e w' h => ⟨h.1, n, h.2.symm⟩
theorem q_Next (h : DP w b bm bi sl L nx S SI) : qcall P F.«dedup_Table_Next» ⟨[.pointer (some ⟨b, 0, none⟩)]⟩ w (.int .u32 nx) := fun n => (c_Next (h.drew ⟨n, rfl⟩)).mono fun e w' h => ⟨h.1, n, h.2.symm⟩

theorem c_alike {rb rc : Nat} {ra : Option Addr} {Sr : Nat → Prop} (h : DP w b bm bi sl L nx S SI) (hr : RT w rb ra rc L nx Sr) (id : Int) (d : ByteArray) (hs : d.size ≤ 4294967296) :
    Calls P F.«revertlaw16_alike» ⟨[.pointer (some ⟨b, 0, none⟩), .pointer (some ⟨rb, 0, none⟩), .int .u32 id, .string d]⟩ w fun e w' => e = .returned (.bool true) ∧ Keep NoB w w' := by
  refine ok_revertlaw16_alike ((c_Get h id).mono ?_)
  rintro _ w1 ⟨rfl, k1⟩
  have h1 := h.keep k1 fun _ _ h => h
  have r1 := hr.keep k1 fun _ _ h => h
  refine ⟨_, _, _, _, rfl, (ref_At r1 id).mono ?_⟩
  rintro _ _ ⟨rfl, rfl⟩
  refine ⟨_, rfl, fun _ w' => w1 = w', ?_, ?_⟩
  · rcases getC_at (L := L) (id := id) with ⟨g, g'⟩ | ⟨c, i, g, g', hi⟩
    · rw [g]
      exact bcase_mk (fun _ => bcase_mk (fun hb => by simp [oData] at hb) (fun _ => bcase_mk (fun hb => by simp [oBlock] at hb) (fun _ => bcase_mk (fun hb => by simp [oRefs] at hb) (fun _ => bcase_mk (fun hb => by cases hb) (fun _ => rfl))))) (fun _ => rfl)
    · exact bcase_mk (fun hb => by have := of_decide_eq_true hb; omega) (fun _ => rfl)
  rintro _ _ rfl
  refine ⟨fun _ w' => w1 = w', ?_, ?_⟩
  · rcases getC_at (L := L) (id := id) with ⟨g, g'⟩ | ⟨c, i, g, g', hi⟩
    · exact bcase_mk (fun hb => by have := of_decide_eq_true hb; omega) (fun _ => rfl)
    · have hlt := (List.getElem?_eq_some_iff.1 hi).1
      obtain ⟨ga, rfl, hc⟩ := r1.cell hi
      obtain ⟨_, rfl⟩ := getC_some g
      rw [g, g']
      exact bcase_mk (fun _ => bcase_mk (fun hb => by cases hb) (fun _ => ⟨_, _, _, r1.slice, ⟨by omega, by omega⟩, _, _, _, _, ⟨hc 0 _ rfl, hc 1 _ rfl, hc 2 _ rfl, hc 3 _ rfl, trivial⟩, false, neq_chunk _ c, bcase_mk (fun hb => by cases hb) (fun _ => rfl)⟩)) (fun _ => rfl)
  rintro _ _ rfl
  refine (ref_Find r1 d).mono ?_
  rintro _ _ ⟨rfl, rfl⟩
  refine ⟨_, rfl, (c_Find h1 d hs).mono ?_⟩
  rintro _ w2 ⟨rfl, k2⟩
  have h2 := h1.keep k2 fun _ _ h => h
  have r2 := r1.keep k2 fun _ _ h => h
  have fin : ∀ w3, Drew w2 w3 → ∀ v : Bool, v = true → (Ending.returned (.bool v) : Ending) = .returned (.bool true) ∧ Keep NoB w w3 := fun w3 hd v hv => ⟨by rw [hv], (k1.trans k2 fun _ _ h => h).trans (Keep.drew NoB hd) fun _ _ h => h⟩
  have hiff := getD_isSome_iff (L := L) (d := d)
  refine ⟨_, _, rfl, bcase_mk (fun _ => ?_) (fun hb => ?_)⟩
  · cases hg : getD L d with
    | none =>
      exact bcase_mk (fun _ => bcase_mk (fun _ => ⟨_, q_Count h2, _, _, _, r2.slice, bcase_mk (fun _ => ⟨_, q_Next h2, _, r2.next, fun w3 hd => fin w3 hd _ (by simp)⟩) (fun hb => by simp at hb)⟩) (fun hb => by simp [oId] at hb)) (fun hb => by cases hb)
    | some c =>
      obtain ⟨hcm, hcd⟩ := getD_some hg
      have hf := hiff.1 (by rw [hg]; rfl)
      obtain ⟨i, x, hi, hx, hxd⟩ := findI_some (L := L) (d := d) (by omega)
      have hxc : x = c := h.wf.data_inj (List.mem_of_getElem? hx) hcm ((bytes_eq hxd).trans hcd.symm)
      subst hxc
      have hlt := (List.getElem?_eq_some_iff.1 hx).1
      obtain ⟨ga, rfl, hc⟩ := r2.cell hx
      rw [hi]
      exact bcase_mk (fun hb => by cases hb) (fun _ => bcase_mk (fun _ => ⟨_, _, _, r2.slice, ⟨by omega, by omega⟩, _, hc 0 _ rfl, bcase_mk (fun _ => ⟨_, q_Count h2, _, _, _, r2.slice, bcase_mk (fun _ => ⟨_, q_Next h2, _, r2.next, fun w3 hd => fin w3 hd _ (by simp)⟩) (fun hb => by simp at hb)⟩) (fun hb => by simp [oId] at hb)⟩) (fun hb => by cases hb))
  · exfalso
    have : (getD L d).isSome = decide (findI L d ≥ 0) := by
      by_cases g : findI L d ≥ 0
      · rw [hiff.2 g]; simp [g]
      · cases hg : (getD L d).isSome with
        | true => exact absurd (hiff.1 hg) g
        | false => simp [g]
    rw [this] at hb
    simp at hb
end

end Go.Proofs.Ytgepmlgkeljelaa.Vc
