/- Strings of the library: Repeat, Builder; the pool's Get. -/
import Derived.Test.YtgepmlgkeljelaaGreatPoPool
import Derived.Test.YtgepmlgkeljelaaGreatShelf
namespace Go.Proofs.YtgepmlgkeljelaaGreat.Vc
open Go Go.Proofs Go.RowKit

theorem keep_below {w u : World} (h : Below w.heap.size w u) : Keep NoB w u := ⟨h.os, h.tape, h.output, h.size, fun b hb _ => h.block b hb⟩

theorem s_Repeat (w : World) (s : ByteArray) (c : Nat) (hc : c ≤ 9223372036854775807) (hlen : s.size * c ≤ 140737488355328) :
    Calls P F.«strings_Repeat» ⟨[.string s, .int .i64 c]⟩ w fun e w' => e = .returned (.string ⟨(Lib.repeatL s.data.toList c).toArray⟩) ∧ Keep NoB w w' :=
  (Tryz.strings_Repeat s c w hc hlen).mono fun _ _ h => ⟨h.1, keep_below h.2⟩

/-- A builder at b, made when there were B blocks, that holds l. -/
def IsB (B b : Nat) (l : List UInt8) (w : World) : Prop := Lib.IsBuilder T.«strings_Builder» T.«u8» B b (Lib.byteCells l) w

theorem IsB.quiet {B b : Nat} {l : List UInt8} {w u : World} (h : IsB B b l w) (k : Keep NoB w u) : IsB B b l u := by
  have go : ∀ p, Lib.BuilderAt T.«strings_Builder» T.«u8» B b p (Lib.byteCells l) w → Lib.BuilderAt T.«strings_Builder» T.«u8» B b p (Lib.byteCells l) u := by
    rintro p ⟨hB, v, hb, ⟨ho, hr⟩, hne⟩
    refine ⟨hB, v, k.at_ hb fun h => h, ⟨ho, ?_⟩, hne⟩
    rcases hr with h | ⟨g, cap, cur, h1, h2, h3, h4⟩
    · exact .inl h
    · exact .inr ⟨g, cap, cur, h1, h2, k.at_ h3 fun h => h, h4⟩
  exact h.imp (go _) (go _)

theorem b_new {w u : World} (n : New w (.cells ⟨[(.pointer none), (.slice none 0 0)]⟩ T.«strings_Builder») u) : IsB w.heap.size w.heap.size [] u :=
  .inl ⟨Nat.le_refl _, _, n.at_, World.ownsRow_nil _ _ _ _, by simp [Value.ownBlock]⟩
theorem b_WriteString {B b : Nat} {l : List UInt8} {w : World} (h : IsB B b l w) (s : ByteArray) (hl : l.length + s.size ≤ 140737488355328) (hB : B ≤ w.heap.size) :
    Calls P F.«strings_Builder_WriteString» ⟨[ptr b, .string s]⟩ w fun e w' => (∃ v, e = .returned (.tuple ⟨[.int .i64 (s.size : Int), v]⟩)) ∧ IsB B b (l ++ s.data.toList) w' ∧ Below B w w' := by
  refine (Any.Builder_WriteString (ρ := Tryz.lays105_ren) { Tryz.lays105 with } Tryz.Builder_Extra_105 B b (Lib.byteCells l) s w h (by rw [Lib.byteCells_length]; exact hl) hB).mono ?_
  rintro e w' ⟨rfl, h1, h2⟩
  refine ⟨⟨_, rfl⟩, .inr ?_, h2⟩
  have e2 : Lib.byteCells (l ++ s.data.toList) = Lib.byteCells l ++ Lib.strCells s := by simp [Lib.byteCells, Lib.strCells]
  rw [e2]; exact h1
theorem b_Len {B b : Nat} {l : List UInt8} {w : World} (h : IsB B b l w) : Calls P F.«strings_Builder_Len» ⟨[ptr b]⟩ w fun e w' => e = .returned (.int .i64 (l.length : Nat)) ∧ w = w' := by
  refine (Tryz.Builder_Len B b (Lib.byteCells l) w h).mono ?_
  rintro e w' ⟨rfl, rfl⟩
  exact ⟨by rw [Lib.byteCells_length], rfl⟩
theorem b_String {B b : Nat} {l : List UInt8} {w : World} (h : IsB B b l w) (hB : B ≤ w.heap.size) : Calls P F.«strings_Builder_String» ⟨[ptr b]⟩ w fun e w' => e = .returned (.string ⟨l.toArray⟩) ∧ Below B w w' :=
  Tryz.Builder_String_any B b l w h hB

def catR (L : List Chk) : List Int → Option (List UInt8)
  | [] => some []
  | id :: r => match getC L id with | none => none | some c => (catR L r).map (c.data.data.toList ++ ·)
/-- What Get answers. -/
def getR (L : List Chk) (ids : List Int) (size : Int) : ByteArray × Int :=
  match catR L ids with | none => (bs [], 5) | some l => if ((l.length : Nat) : Int) ≠ size then (bs [], 4) else (⟨l.toArray⟩, 0)

theorem o_Get {w : World} {S : Foot} {pb lb : Nat} {L : List Chk} {nx : Int} {f : Nat → Bool} (h : (Pol pb lb L nx f).on w S) {ia : Option Addr} {ic : Nat} {ids : List Int} (hi : Src w 1 ia ids.length ic (ids.map (Value.int .u32))) (hil : ids.length ≤ 1000000) (size : Int) :
    Calls P F.«pool_Pool_Get» ⟨[ptr pb, .slice ia ids.length ic, .int .i64 size]⟩ w fun e w' => e = .returned (.tuple ⟨[.string (getR L ids size).1, .int .i64 (getR L ids size).2]⟩) ∧ Keep NoB w w' := by
  refine ok_pool_Pool_Get ?_
  unfold V_pool_Pool_Get
  obtain ⟨tb, fb, St, Sf, ho, ht, hf⟩ := Pol.parts h
  have hwf := Ded.wf ht
  refine (o_is ho).mono ?_
  rintro _ _ ⟨rfl, rfl⟩
  refine ⟨_, rfl, bcase_mk (fun h => by cases h) fun _ => alloc_step fun u0 n0 => ?_⟩
  have z0 := n0.size
  refine ⟨fun p u => ∃ (i : Nat) (acc : List UInt8), p.1 = (i : Int) ∧ i ≤ ids.length ∧ acc.length ≤ 64 * i ∧ catR L ids = (catR L (ids.drop i)).map (acc ++ ·) ∧ IsB w.heap.size w.heap.size acc u ∧ Keep NoB w u, fun p _ => ids.length - p.1.toNat, ⟨0, [], rfl, Nat.zero_le _, by simp, by cases hc : catR L ids <;> simp [hc], b_new n0, n0.keep⟩, ?_⟩
  rintro _ n u ⟨i, acc, hn, hi2, hal, hcat, hb, k⟩
  have hn : n = (i : Int) := hn
  subst hn
  have ku := k.size
  generalize hbb : decide ((i : Int) < ((ids.length : Nat) : Int)) = bb
  refine bcase_mk (fun hlt => ?_) fun hge => ?_
  · have hlt : i < ids.length := by have := of_decide_eq_true (hbb.trans hlt); omega
    have hdr : ids.drop i = ids[i] :: ids.drop (i + 1) := List.drop_eq_getElem_cons hlt
    rw [hdr] at hcat
    rcases (hi.keep k fun _ _ h => h).2 with ⟨_, h0, _⟩ | ⟨a, rfl, hr⟩
    · omega
    refine ⟨⟨by omega, by omega⟩, ids[i], ?_, some ⟨tb, 0, none⟩, cell_at (k.at_ ho fun h => h) rfl, ?_⟩
    · rw [Int.toNat_natCast, Nat.mul_one]
      exact hr i _ (by simp [List.getElem?_eq_getElem hlt])
    have ht' : (Ded tb L nx).on u St := (Ded tb L nx).loc ht (fun g hg => k.block g ((Ded tb L nx).lt ht hg) fun h => h) k.size
    refine (t_Get ht' ids[i]).mono ?_
    rintro _ u1 ⟨rfl, k1⟩
    refine ⟨_, _, _, _, rfl, ?_⟩
    have wi : IntKind.wrap .i64 ((i : Int) + 1) = ((i + 1 : Nat) : Int) := by rw [wrap64 (by omega) (by omega)]; omega
    rw [wi]
    cases hg : getC L ids[i] with
    | none =>
      refine bcase_mk (fun _ => ⟨?_, k.trans k1 fun _ _ h => h⟩) fun h => by cases h
      have : catR L ids = none := by rw [hcat]; unfold catR; rw [hg]; rfl
      unfold getR; rw [this]
    | some c =>
      have hcs := (hwf.1.rng c (getC_some hg).1).2.1
      have ku1 := k1.size
      refine bcase_mk (fun h => by cases h) fun _ => (b_WriteString (hb.quiet k1) c.data (by omega) (by omega)).mono ?_
      rintro _ u2 ⟨⟨v, rfl⟩, hb2, hbl⟩
      refine ⟨_, _, rfl, ⟨i + 1, acc ++ c.data.data.toList, rfl, by omega, ?_, ?_, hb2, ?_⟩, by show ids.length - ((i + 1 : Nat) : Int).toNat < ids.length - ((i : Nat) : Int).toNat; omega⟩
      · rw [List.length_append]; have : c.data.data.toList.length = c.data.size := rfl; omega
      · rw [hcat]; conv => lhs; unfold catR
        rw [hg]; simp only [Option.map_map]
        congr 1; funext x; simp
      · exact ⟨(hbl.os.trans k1.os).trans k.os, (hbl.tape.trans k1.tape).trans k.tape, (hbl.output.trans k1.output).trans k.output, by have := hbl.size; omega, fun g hg _ => (hbl.block g hg).trans ((k1.block g (by omega) fun h => h).trans (k.block g hg fun h => h))⟩
  · have hie : i = ids.length := by have := of_decide_eq_false (hbb.trans hge); omega
    rw [hie, List.drop_length] at hcat
    have hcat : catR L ids = some acc := by rw [hcat]; simp [catR]
    refine (b_Len hb).mono ?_
    rintro _ _ ⟨rfl, rfl⟩
    refine ⟨_, rfl, bcase_mk (fun hne => ⟨?_, k⟩) fun heq => ?_⟩
    · have hne : ((acc.length : Nat) : Int) ≠ size := by simpa using hne
      unfold getR; rw [hcat]; simp only; rw [if_pos hne]
    · have heq : ((acc.length : Nat) : Int) = size := by simpa using heq
      refine (b_String hb ku).mono ?_
      rintro _ u1 ⟨rfl, hbl⟩
      refine ⟨_, rfl, ?_, ⟨hbl.os.trans k.os, hbl.tape.trans k.tape, hbl.output.trans k.output, by have := hbl.size; omega, fun g hg _ => (hbl.block g hg).trans (k.block g hg fun h => h)⟩⟩
      unfold getR; rw [hcat]; simp only; rw [if_neg (by simpa using heq)]

end Go.Proofs.YtgepmlgkeljelaaGreat.Vc
