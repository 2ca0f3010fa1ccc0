/- The law's functions: few, one, DedupPlays. -/
import Derived.Test.YtgepmlgkeljelaaDdLaw
namespace Go.Proofs.Ytgepmlgkeljelaa.Vc
open Go Go.Proofs

structure ActV where
  what : Int
  id : Int
  data : ByteArray
  block : Int
  refs : Int
  ask : Int
  other : ByteArray
def encA (x : ActV) : List Value := [.int .u8 x.what, .int .u32 x.id, .string x.data, .int .i64 x.block, .int .i64 x.refs, .int .u32 x.ask, .string x.other]

/-- The acts in memory. -/
def ActsAt (w : World) (a : Option Addr) (A : List ActV) : Prop := A = [] ∨ ∃ a0, a = some a0 ∧ ∀ i x, A[i]? = some x → ∀ j v, (encA x)[j]? = some v → w.cell? ((a0.add (i * 7)).add j) = some v

theorem ActsAt.keep {w u : World} {a : Option Addr} {A : List ActV} (h : ActsAt w a A) (hk : Keep NoB w u) : ActsAt u a A := by
  rcases h with h | ⟨a0, h1, h2⟩
  · exact .inl h
  · refine .inr ⟨a0, h1, fun i x hi j v hv => ?_⟩
    have h0 := h2 i x hi j v hv
    exact (World.cell?_of_block (hk.block _ (World.block_lt_of_cell? w _ h0) (fun h => h))).trans h0
theorem ActsAt.cell {w : World} {a : Option Addr} {A : List ActV} (h : ActsAt w a A) {i : Nat} {x : ActV} (hi : A[i]? = some x) : ∃ a0, a = some a0 ∧ ∀ j v, (encA x)[j]? = some v → w.cell? ((a0.add (i * 7)).add j) = some v := by
  rcases h with h | ⟨a0, h1, h2⟩
  · subst h; cases hi
  · exact ⟨a0, h1, h2 i x hi⟩

theorem c_few {w : World} {a : Option Addr} {c : Nat} {A : List ActV} (h : ActsAt w a A) : Calls P F.«revertlaw16_few» ⟨[.slice a A.length c]⟩ w fun e w' => w = w' ∧ ∃ b : Bool, e = .returned (.bool b) ∧ (b = true → A.length ≤ 60 ∧ ∀ x ∈ A, x.data.size ≤ 100 ∧ x.other.size ≤ 100) := by
  refine ok_revertlaw16_few ⟨fun t w' => w = w' ∧ ∃ i : Nat, t.1 = i ∧ i ≤ A.length ∧ ∀ x ∈ A.take i, x.data.size ≤ 100 ∧ x.other.size ≤ 100, fun t _ => A.length - t.1.toNat, ⟨rfl, 0, rfl, by omega, by simp⟩, ?_⟩
  rintro _ _ _ ⟨rfl, i, rfl, hi, hn⟩
  refine bcase_mk (fun hb => bcase_mk (fun h70 => ?_) (fun h70 => ?_)) (fun hb => ?_)
  · have hlt : i < A.length := by have := of_decide_eq_true hb; omega
    have h70 : (i : Int) < 70 := of_decide_eq_true h70
    have hx : A[i]? = some A[i] := List.getElem?_eq_getElem hlt
    obtain ⟨a0, rfl, hc⟩ := h.cell hx
    refine ⟨⟨by omega, by omega⟩, _, hc 2 _ rfl, bcase_mk (fun _ => ⟨rfl, false, rfl, fun h => by cases h⟩) (fun h1 => ⟨⟨by omega, by omega⟩, _, hc 6 _ rfl, bcase_mk (fun _ => ⟨rfl, false, rfl, fun h => by cases h⟩) (fun h2 => ?_)⟩)⟩
    have h1 := of_decide_eq_false h1
    have h2 := of_decide_eq_false h2
    rw [wrap64 (by omega) (by omega)]
    refine ⟨⟨rfl, i + 1, by simp, by omega, fun x hx' => ?_⟩, by show A.length - ((i : Int) + 1).toNat < A.length - (i : Int).toNat; omega⟩
    rw [List.take_add_one, hx] at hx'
    simp only [Option.toList_some, List.mem_append, List.mem_singleton] at hx'
    rcases hx' with hx' | rfl
    · exact hn x hx'
    · exact ⟨by omega, by omega⟩
  · have h70 : ¬ (i : Int) < 70 := of_decide_eq_false h70
    refine ⟨rfl, _, rfl, fun h => ?_⟩
    have := of_decide_eq_true h
    omega
  · have hge : i = A.length := by have := of_decide_eq_false hb; omega
    subst hge
    refine ⟨rfl, _, rfl, fun h => ?_⟩
    have := of_decide_eq_true h
    exact ⟨by omega, by simpa using hn⟩

/-! ### Both tables -/
structure Pair (w : World) (b rb : Nat) (L : List Chk) (nx : Int) (S Sr : Nat → Prop) : Prop where
  dt : DT w b L nx S
  rt : ∃ a c, RT w rb a c L nx Sr
  dis : ∀ g, S g → ¬ Sr g

def Or2 (S Sr : Nat → Prop) : Nat → Prop := fun g => S g ∨ Sr g

/-- Both tables behind a step. -/
def PPost (w : World) (b rb : Nat) (S Sr : Nat → Prop) (L : List Chk) (nx : Int) (w' : World) : Prop :=
  Keep (Or2 S Sr) w w' ∧ ∃ S' Sr', Pair w' b rb L nx S' Sr' ∧ (∀ g, S' g → S g ∨ w.heap.size ≤ g) ∧ ∀ g, Sr' g → Sr g ∨ w.heap.size ≤ g

theorem Pair.keep {w u : World} {b rb : Nat} {L : List Chk} {nx : Int} {S Sr : Nat → Prop} (h : Pair w b rb L nx S Sr) (hk : Keep NoB w u) : Pair u b rb L nx S Sr := by
  obtain ⟨⟨bm, bi, sl, SI, hd⟩, ⟨a, c, hr⟩, dis⟩ := h
  exact ⟨⟨bm, bi, sl, SI, hd.keep hk fun _ _ h => h⟩, ⟨a, c, hr.keep hk fun _ _ h => h⟩, dis⟩

theorem PPost.same {w u : World} {b rb : Nat} {L : List Chk} {nx : Int} {S Sr : Nat → Prop} (h : Pair w b rb L nx S Sr) (hk : Keep NoB w u) : PPost w b rb S Sr L nx u :=
  ⟨hk.mono fun _ _ h => h.elim, S, Sr, h.keep hk, fun _ h => .inl h, fun _ h => .inl h⟩

/-- The program's table first, then the document's. -/
theorem PPost.both {w u w1 w2 : World} {b rb : Nat} {L L' : List Chk} {nx nx' : Int} {S Sr : Nat → Prop} (h : Pair w b rb L nx S Sr) (hk : Keep NoB w u) (h1 : DPost u b S L' nx' w1) (h2 : RPost w1 rb Sr L' nx' w2) : PPost w b rb S Sr L' nx' w2 := by
  obtain ⟨hd, ⟨a, c, hr⟩, dis⟩ := h
  have ls := hd.lt
  have lr := hr.lt
  obtain ⟨k1, bm', bi', sl', SI', p1⟩ := h1
  obtain ⟨k2, a', c', r2⟩ := h2
  have z0 := hk.size
  have z1 := k1.size
  have z2 := k2.size
  refine ⟨((hk.mono fun _ _ h => h.elim).trans k1 fun g _ hg => .inl hg).trans k2 fun g _ hg => .inr hg, Ext S u w1, Ext Sr w1 w2, ⟨⟨bm', bi', sl', SI', p1.keep k2 fun g hg hs => ?_⟩, ⟨a', c', r2⟩, fun g hg hs => ?_⟩, fun g hg => ?_, fun g hg => ?_⟩
  · rcases hg with hg | hg
    · exact dis g hg hs
    · have := lr g hs; omega
  · rcases hg with hg | hg
    · rcases hs with hs | hs
      · exact dis g hg hs
      · have := ls g hg; omega
    · rcases hs with hs | hs
      · have := lr g hs; omega
      · omega
  · rcases hg with hg | hg
    · exact .inl hg
    · exact .inr (by omega)
  · rcases hg with hg | hg
    · exact .inl hg
    · exact .inr (by omega)

theorem addR_len (L : List Chk) (nx : Int) (d : ByteArray) (blk : Int) : (addR L nx d blk).2.1.length ≤ L.length + 1 := by
  unfold addR
  repeat' split
  all_goals simp [insC_length]
theorem loadR_len (L : List Chk) (nx : Int) (x : Chk) : (loadR L nx x).2.1.length ≤ L.length + 1 := by
  unfold loadR
  repeat' split
  all_goals simp [insC_length]
theorem holdR_len (L : List Chk) (id : Int) : (holdR L id).2.length ≤ L.length + 1 := by
  unfold holdR
  repeat' split
  all_goals simp
theorem releaseR_len (L : List Chk) (id : Int) : (releaseR L id).2.length ≤ L.length + 1 := by
  unfold releaseR
  repeat' split
  all_goals simp [List.length_eraseIdx]
  split <;> omega

section
variable {w : World} {b rb : Nat} {L : List Chk} {nx : Int} {S Sr : Nat → Prop}

theorem c_one (h : Pair w b rb L nx S Sr) (x : ActV) (hid : 0 ≤ x.id ∧ x.id ≤ 4294967295) (hs : x.data.size ≤ 4294967296) (hlen : L.length < 1000) :
    Calls P F.«revertlaw16_one» ⟨[.pointer (some ⟨b, 0, none⟩), .pointer (some ⟨rb, 0, none⟩), .agg ⟨encA x⟩]⟩ w fun e w' => e = .returned (.bool true) ∧ ∃ L' nx', L'.length ≤ L.length + 1 ∧ PPost w b rb S Sr L' nx' w' := by
  refine ok_revertlaw16_one ?_
  unfold V_revertlaw16_one
  refine alloc_step fun u hu => ⟨_, cell_at hu.at_ rfl, by decide, ?_⟩
  have hu' := hu.at_
  have hP := h.keep hu.keep
  obtain ⟨⟨bm, bi, sl, SI, hd⟩, ⟨ra, rc, hr⟩, dis⟩ := hP
  have dis' : ∀ g, Sr g → ¬ S g := fun g h1 h2 => dis g h2 h1
  have hrefs : ∀ c ∈ L, 1 ≤ c.refs ∧ c.refs ≤ 65535 := fun c hc => (hd.wf.rng c hc).2.2
  have hbox : ∀ g, S g → g ≠ w.heap.size := fun g hg e => by have := h.dt.lt g hg; omega
  have hnx := hd.wf.nx
  refine ⟨fun t w' => u = w' ∧ t.1 = (decide (x.what.tmod 9 = 0) || (decide (x.what.tmod 9 = 1) || decide (x.what.tmod 9 = 2))), bcase_mk (fun hb => ⟨rfl, ?_⟩) (fun hb => bcase_mk (fun hc => ⟨rfl, ?_⟩) (fun hc => ⟨rfl, ?_⟩)), ?_⟩
  · have : x.what.tmod 9 = 0 := by simpa using hb
    simp [this]
  · have : x.what.tmod 9 = 1 := by simpa using hc
    simp [this]
  · have h1 : ¬ x.what.tmod 9 = 0 := by simpa using hb
    have h2 : ¬ x.what.tmod 9 = 1 := by simpa using hc
    show (x.what.tmod 9 == 2) = _
    simp only [h1, h2, decide_false, Bool.false_or]
    rfl
  · rintro _ _ _ ⟨rfl, rfl⟩
    refine bcase_mk (fun _ => ⟨_, cell_at hu' rfl, _, cell_at hu' rfl, (c_Add hd x.data x.block hs hlen).mono ?_⟩) (fun _ => bcase_mk (fun _ => ⟨_, cell_at hu' rfl, _, cell_at hu' rfl, _, cell_at hu' rfl, _, cell_at hu' rfl, (c_Load hd ⟨x.id, x.data, x.block, x.refs⟩ hs hid hlen).mono ?_⟩) (fun _ => bcase_mk (fun _ => ⟨_, cell_at hu' rfl, (c_Hold hd x.id).mono ?_⟩) (fun _ => ?_)))
    · rintro _ w1 ⟨rfl, p1⟩
      have hb1 := p1.1.at_ hu' fun hg => hbox _ hg rfl
      have hr1 := hr.keep p1.1 fun g hg => dis' g hg
      refine ⟨_, _, rfl, _, cell_at hb1 rfl, _, cell_at hb1 rfl, (ref_Add hr1 x.data x.block (by omega) ⟨by omega, by omega⟩).mono ?_⟩
      rintro _ w2 ⟨rfl, p2⟩
      exact ⟨_, _, rfl, bcase_mk (fun _ => ⟨by simp, _, _, addR_len L nx x.data x.block, PPost.both h hu.keep p1 p2⟩) (fun hb => by simp at hb)⟩
    · rintro _ w1 ⟨rfl, p1⟩
      have hb1 := p1.1.at_ hu' fun hg => hbox _ hg rfl
      have hr1 := hr.keep p1.1 fun g hg => dis' g hg
      refine ⟨_, rfl, _, cell_at hb1 rfl, _, cell_at hb1 rfl, _, cell_at hb1 rfl, _, cell_at hb1 rfl, (ref_Load hr1 ⟨x.id, x.data, x.block, x.refs⟩ (by omega) hid).mono ?_⟩
      rintro _ w2 ⟨rfl, p2⟩
      exact ⟨_, rfl, by simp, _, _, loadR_len L nx ⟨x.id, x.data, x.block, x.refs⟩, PPost.both h hu.keep p1 p2⟩
    · rintro _ w1 ⟨rfl, p1⟩
      have hb1 := p1.1.at_ hu' fun hg => hbox _ hg rfl
      have hr1 := hr.keep p1.1 fun g hg => dis' g hg
      refine ⟨_, rfl, _, cell_at hb1 rfl, (ref_Hold hr1 x.id hrefs).mono ?_⟩
      rintro _ w2 ⟨rfl, p2⟩
      exact ⟨_, rfl, by simp, _, _, holdR_len L x.id, PPost.both h hu.keep p1 p2⟩
    · refine ⟨fun _ w' => u = w', bcase_mk (fun _ => rfl) (fun _ => rfl), ?_⟩
      rintro _ _ _ rfl
      refine bcase_mk (fun _ => ⟨_, cell_at hu' rfl, (c_Release hd x.id).mono ?_⟩) (fun _ => bcase_mk (fun _ => ⟨_, cell_at hu' rfl, (c_Skip hd x.id hid).mono ?_⟩) (fun _ => ⟨rfl, L, nx, by omega, PPost.same h hu.keep⟩))
      · rintro _ w1 ⟨rfl, p1⟩
        have hb1 := p1.1.at_ hu' fun hg => hbox _ hg rfl
        have hr1 := hr.keep p1.1 fun g hg => dis' g hg
        refine ⟨_, _, rfl, _, cell_at hb1 rfl, (ref_Release hr1 x.id (by omega) hrefs).mono ?_⟩
        rintro _ w2 ⟨rfl, p2⟩
        exact ⟨_, _, rfl, bcase_mk (fun _ => ⟨by simp, _, _, releaseR_len L x.id, PPost.both h hu.keep p1 p2⟩) (fun hb => by simp at hb)⟩
      · rintro _ w1 ⟨rfl, p1⟩
        have hb1 := p1.1.at_ hu' fun hg => hbox _ hg rfl
        have hr1 := hr.keep p1.1 fun g hg => dis' g hg
        refine ⟨rfl, _, cell_at hb1 rfl, (ref_Skip hr1 x.id).mono ?_⟩
        rintro _ w2 ⟨rfl, p2⟩
        exact ⟨rfl, rfl, _, _, by omega, PPost.both h hu.keep p1 p2⟩
end

/-- THE LAW. -/
theorem c_DedupPlays (hS : SortOk) {w : World} {a : Option Addr} {c : Nat} {A : List ActV} (h : ActsAt w a A) (hid : ∀ x ∈ A, (0 ≤ x.id ∧ x.id ≤ 4294967295) ∧ 0 ≤ x.ask ∧ x.ask ≤ 4294967295) :
    Calls P F.«revertlaw16_DedupPlays» ⟨[.slice a A.length c]⟩ w fun e w' => e = .returned (.bool true) ∧ Keep NoB w w' := by
  refine ok_revertlaw16_DedupPlays ((c_few h).mono ?_)
  rintro _ _ ⟨rfl, bf, rfl, hf⟩
  refine ⟨_, rfl, bcase_mk (fun _ => (c_works w).mono ?_) (fun hb => (c_New w).mono ?_)⟩
  · rintro _ w1 ⟨rfl, k1⟩
    exact ⟨_, rfl, rfl, k1⟩
  have hbf : bf = true := by simpa using hb
  obtain ⟨hA, hsz⟩ := hf hbf
  rintro _ w1 ⟨b, rfl, k1, hb1, hT1⟩
  refine ⟨_, rfl, (ref_New w1).mono ?_⟩
  rintro _ w2 ⟨rfl, k2, hR2⟩
  have k02 : Keep NoB w w2 := k1.trans k2 fun _ _ h => h
  have z1 := k1.size
  have z2 := k2.size
  refine ⟨_, rfl, fun t w' => ∃ b rb L nx S Sr, ∃ i : Nat, t.1 = some ⟨b, 0, none⟩ ∧ t.2.1 = some ⟨rb, 0, none⟩ ∧ t.2.2.1 = i ∧ i ≤ A.length ∧ Pair w' b rb L nx S Sr ∧ L.length ≤ i ∧ (∀ g, Or2 S Sr g → w.heap.size ≤ g) ∧ Keep NoB w w',
    fun t _ => A.length - t.2.2.1.toNat, ⟨b, w1.heap.size, [], 1, Ext NoB w w1, Ext NoB w1 w2, 0, rfl, rfl, rfl, by omega, ⟨?_, ⟨_, _, hR2⟩, ?_⟩, by simp, ?_, k02⟩, ?_⟩
  · obtain ⟨bm, bi, sl, SI, hp⟩ := hT1
    exact ⟨bm, bi, sl, SI, hp.keep k2 fun _ _ h => h⟩
  · rintro g (h1 | h1) (h2 | h2)
    · exact h1
    · exact h1
    · exact h2
    · omega
  · rintro g ((h1 | h1) | (h1 | h1))
    · exact h1.elim
    · exact h1.1
    · exact h1.elim
    · omega
  rintro _ _ _ _ w3 ⟨b, rb, L, nx, S, Sr, i, rfl, rfl, rfl, hi, hP, hL, hge, k03⟩
  refine bcase_mk (fun hb => ?_) (fun _ => (c_works w3).mono ?_)
  rotate_left 1
  · rintro _ w4 ⟨rfl, k4⟩
    exact ⟨_, rfl, rfl, k03.trans k4 fun _ _ h => h⟩
  have hlt : i < A.length := by have := of_decide_eq_true hb; omega
  have hx : A[i]? = some A[i] := List.getElem?_eq_getElem hlt
  generalize hxx : A[i] = x at hx
  have hxm : x ∈ A := List.mem_of_getElem? hx
  obtain ⟨hidx, haskx⟩ := hid x hxm
  obtain ⟨hsd, hso⟩ := hsz x hxm
  obtain ⟨a0, rfl, hc⟩ := (h.keep k03).cell hx
  refine ⟨⟨by omega, by omega⟩, _, _, _, _, _, _, _, ⟨hc 0 _ rfl, hc 1 _ rfl, hc 2 _ rfl, hc 3 _ rfl, hc 4 _ rfl, hc 5 _ rfl, hc 6 _ rfl, trivial⟩, ?_⟩
  refine alloc_step fun v0 n0 => store_step n0.at_ (by simp) fun v1 s1 => store_step s1.at_ (by simp) fun v2 s2 => store_step s2.at_ (by simp) fun v3 s3 => store_step s3.at_ (by simp) fun v4 s4 => store_step s4.at_ (by simp) fun v5 s5 => store_step s5.at_ (by simp) fun v6 s6 => store_step s6.at_ (by simp) fun v7 s7 => ?_
  have n7 : New w3 (.cells ⟨encA x⟩ T.«revertlaw16_Act») v7 := Set1.new (Set1.new (Set1.new (Set1.new (Set1.new (Set1.new (Set1.new n0 s1) s2) s3) s4) s5) s6) s7
  clear s1 s2 s3 s4 s5 s6 s7 n0
  have z7 := n7.size
  have z3 := k03.size
  have hP7 := hP.keep n7.keep
  have hlS : ∀ g, Or2 S Sr g → g < w3.heap.size := fun g hg => by
    rcases hg with hg | hg
    · exact hP.dt.lt g hg
    · obtain ⟨_, _, hr⟩ := hP.rt; exact hr.lt g hg
  have k07 : Keep NoB w v7 := k03.trans n7.keep fun _ _ h => h
  -- the tables behind 'Copy', or as they were
  refine ⟨fun t w' => ∃ b rb S Sr, t.1 = some ⟨b, 0, none⟩ ∧ t.2.1 = some ⟨rb, 0, none⟩ ∧ Pair w' b rb L nx S Sr ∧ (∀ g, Or2 S Sr g → w.heap.size ≤ g ∧ g ≠ w3.heap.size) ∧ w'.heap[w3.heap.size]? = some (.cells ⟨encA x⟩ T.«revertlaw16_Act») ∧ Keep NoB w w',
    ⟨_, cell_at n7.at_ rfl, by decide, bcase_mk (fun _ => ?_) (fun _ => ⟨b, rb, S, Sr, rfl, rfl, hP7, fun g hg => ⟨hge g hg, fun e => by have := hlS g hg; omega⟩, n7.at_, k07⟩)⟩, ?_⟩
  · obtain ⟨⟨bm, bi, sl, SI, hd⟩, ⟨ra, rc, hr⟩, dis⟩ := hP7
    refine (c_Copy hS hd (by omega)).mono ?_
    rintro _ w4 ⟨b4, rfl, k4, hb4, hT4⟩
    have hd4 := hd.keep k4 fun _ _ h => h
    have hr4 := hr.keep k4 fun _ _ h => h
    refine ⟨_, rfl, (ref_Copy hr4 (by omega)).mono ?_⟩
    rintro _ w5 ⟨rfl, k5, a5, c5, hR5⟩
    have hd5 := hd4.keep k5 fun _ _ h => h
    have z4 := k4.size
    have z5 := k5.size
    refine ⟨_, rfl, (c_Add hd5 (bs [115, 112, 111, 105, 108, 116]) 1 (by decide) (by omega)).mono ?_⟩
    rintro _ w6 ⟨rfl, k6, bm6, bi6, sl6, SI6, hd6⟩
    have z6 := k6.size
    have box6 := k6.at_ (k5.at_ (k4.at_ n7.at_ (fun h => h)) (fun h => h)) (fun hg => by have := hlS _ (.inl hg); omega)
    refine ⟨_, _, rfl, _, cell_at box6 rfl, (c_Release hd6 x.id).mono ?_⟩
    rintro _ w7 ⟨rfl, k7', bm7, bi7, sl7, SI7, hd7⟩
    have z7' := k7'.size
    refine ⟨_, _, rfl, (c_Skip hd7 1048576 (by decide)).mono ?_⟩
    rintro _ w8 ⟨rfl, k8, _⟩
    -- what the old table holds by now: none of it is the copies'
    have o6 : ∀ g, Ext S w5 w6 g → S g ∨ w5.heap.size ≤ g := fun g hg => hg.imp id (·.1)
    have o7 : ∀ g, Ext (Ext S w5 w6) w6 w7 g → S g ∨ w5.heap.size ≤ g := fun g hg => hg.elim (o6 g) (fun h => .inr (by omega))
    have k58 : Keep S w5 w8 := (k6.trans k7' fun g hg h => (o6 g h).resolve_right (by omega)).trans k8 fun g hg h => (o7 g h).resolve_right (by omega)
    have hS7 : ∀ g, S g → g < w3.heap.size := fun g hg => hlS g (.inl hg)
    have box8 := k58.at_ (k5.at_ (k4.at_ n7.at_ (fun h => h)) (fun h => h)) (fun hg => by have := hS7 _ hg; omega)
    refine ⟨rfl, b4, w4.heap.size, Ext NoB v7 w4, Ext NoB w4 w5, rfl, rfl, ⟨?_, ⟨a5, c5, hR5.keep k58 fun g hg hs => ?_⟩, ?_⟩, ?_, box8, ?_⟩
    · obtain ⟨bm', bi', sl', SI', hp'⟩ := hT4
      refine ⟨bm', bi', sl', SI', (hp'.keep k5 fun _ _ h => h).keep k58 fun g hg hs => ?_⟩
      have := hS7 g hs
      rcases hg with hg | hg
      · exact hg
      · omega
    · have := hS7 g hs
      rcases hg with hg | hg
      · exact hg
      · omega
    · rintro g (h1 | h1) (h2 | h2)
      · exact h1
      · exact h1
      · exact h2
      · omega
    · rintro g ((h1 | h1) | (h1 | h1))
      · exact h1.elim
      · exact ⟨by omega, by omega⟩
      · exact h1.elim
      · exact ⟨by omega, by omega⟩
    · refine (((k07.trans k4 fun _ _ h => h).trans k5 fun _ _ h => h).trans k58 fun g hg hs => ?_)
      have := hge g (.inl hs); omega
  · clear hP hP7 hge hlS
    rintro _ _ _ w4 ⟨b, rb, S, Sr, rfl, rfl, hP, hge, box, k04⟩
    refine ⟨_, _, _, _, _, _, _, ⟨cell_at box rfl, cell_at box rfl, cell_at box rfl, cell_at box rfl, cell_at box rfl, cell_at box rfl, cell_at box rfl, trivial⟩, (c_one hP x hidx (by omega) (by omega)).mono ?_⟩
    rintro _ w5 ⟨rfl, L', nx', hL', k5, S', Sr', hP5, hs1, hs2⟩
    refine ⟨_, rfl, bcase_mk (fun hb => by cases hb) (fun _ => ?_)⟩
    have z4 := k04.size
    have hbl := lt_of_at box
    have box5 := k5.at_ box (fun hg => (hge _ hg).2 rfl)
    have k05 : Keep NoB w w5 := k04.trans k5 fun g hg hs => by have := (hge g hs).1; omega
    obtain ⟨⟨bm, bi, sl, SI, hd⟩, ⟨ra, rc, hr⟩, dis⟩ := hP5
    refine ⟨_, cell_at box5 rfl, _, cell_at box5 rfl, (c_alike hd hr x.ask x.other (by omega)).mono ?_⟩
    rintro _ w6 ⟨rfl, k6⟩
    have hd6 := hd.keep k6 fun _ _ h => h
    have hr6 := hr.keep k6 fun _ _ h => h
    have box6 := k6.at_ box5 (fun h => h)
    refine ⟨_, rfl, bcase_mk (fun hb => by cases hb) (fun _ => ⟨_, cell_at box6 rfl, _, cell_at box6 rfl, (c_alike hd6 hr6 x.id x.data (by omega)).mono ?_⟩)⟩
    rintro _ w7 ⟨rfl, k7⟩
    have hd7 := hd6.keep k7 fun _ _ h => h
    have hr7 := hr6.keep k7 fun _ _ h => h
    refine ⟨_, rfl, bcase_mk (fun hb => by cases hb) (fun _ => (c_listed hS hd7 hr7).mono ?_)⟩
    rintro _ w8 ⟨rfl, k8⟩
    have hd8 := hd7.keep k8 fun _ _ h => h
    have hr8 := hr7.keep k8 fun _ _ h => h
    refine ⟨_, rfl, bcase_mk (fun hb => by cases hb) (fun _ => ?_)⟩
    rw [wrap64 (by omega) (by omega)]
    refine ⟨⟨b, rb, L', nx', S', Sr', i + 1, rfl, rfl, by simp, by omega, ⟨⟨bm, bi, sl, SI, hd8⟩, ⟨ra, rc, hr8⟩, dis⟩, by omega, fun g hg => ?_, ((k05.trans k6 fun _ _ h => h).trans k7 fun _ _ h => h).trans k8 fun _ _ h => h⟩, by show A.length - ((i : Int) + 1).toNat < A.length - (i : Int).toNat; omega⟩
    rcases hg with hg | hg
    · rcases hs1 g hg with hg | hg
      · exact (hge g (.inl hg)).1
      · omega
    · rcases hs2 g hg with hg | hg
      · exact (hge g (.inr hg)).1
      · omega

end Go.Proofs.Ytgepmlgkeljelaa.Vc
