/- Laws of the pool: lists of ids and chunks; 'awake'. -/
import Derived.Test.YtgepmlgkeljelaaGreatPoDiff
import Derived.Test.YtgepmlgkeljelaaGreatPoStr
namespace Go.Proofs.YtgepmlgkeljelaaGreat.Vc
open Go Go.Proofs

section
variable {w W0 : World} {S S0 : Foot} {l : List Asrt}

theorem Src.at1 {a : Option Addr} {n c : Nat} {xs : List Value} (h : Src w 1 a n c xs) {i : Nat} {v : Value} (hi : xs[i]? = some v) : ∃ x, a = some x ∧ w.cell? (x.add (i * 1)) = some v := by
  rcases h.2 with ⟨_, h0, _⟩ | ⟨x, rfl, hr⟩
  · have := h.1; have := (List.getElem?_eq_some_iff.1 hi).1; omega
  · exact ⟨x, rfl, by rw [Nat.mul_one]; exact hr i v hi⟩
theorem Src.drew {sz : Nat} {a : Option Addr} {n c : Nat} {xs : List Value} {u : World} (h : Src w sz a n c xs) (hd : Drew w u) : Src u sz a n c xs := h.keep (Keep.drew NoB hd) fun _ _ h => h
theorem Src.quiet {sz : Nat} {a : Option Addr} {n c : Nat} {xs : List Value} {u : World} (h : Src w sz a n c xs) (k : Keep NoB w u) : Src u sz a n c xs := h.keep k fun _ _ h => h

theorem r_Ids {a b : Option Addr} {n m ca cb : Nat} {xs ys : List Int} (h1 : Src w 1 a n ca (xs.map u32v)) (h2 : Src w 1 b m cb (ys.map u32v)) (hl : xs.length ≤ 1000000) :
    Calls P F.«revertref17_Ids» ⟨[.slice a n ca, .slice b m cb]⟩ w fun e w' => e = .returned (.bool (decide (xs = ys))) ∧ Keep NoB w w' := by
  refine ok_revertref17_Ids ?_
  unfold V_revertref17_Ids
  have hn : xs.length = n := by have := h1.1; simpa using this
  have hm : ys.length = m := by have := h2.1; simpa using this
  subst hn hm
  generalize hb0 : (((xs.length : Nat) : Int) != ((ys.length : Nat) : Int)) = b0
  refine bcase_mk (fun hne => ⟨?_, Keep.refl _ _⟩) fun heq => ?_
  · rw [hne] at hb0
    have : xs.length ≠ ys.length := by
      have h : ((xs.length : Nat) : Int) ≠ ys.length := by simpa using hb0
      omega
    rw [decide_eq_false fun h => this (by rw [h])]
  · have hlen : xs.length = ys.length := by rw [heq] at hb0; have : ((xs.length : Nat) : Int) = ys.length := by simpa using hb0
                                            omega
    refine ⟨fun p u => ∃ i : Nat, p.1 = (i : Int) ∧ i ≤ xs.length ∧ xs.take i = ys.take i ∧ Keep NoB w u, fun p _ => xs.length - p.1.toNat, ⟨0, rfl, Nat.zero_le _, rfl, Keep.refl _ _⟩, ?_⟩
    rintro _ k u ⟨i, hk, hi, ht, kp⟩
    have hk : k = (i : Int) := hk
    subst hk
    generalize hbb : decide ((i : Int) < ((xs.length : Nat) : Int)) = bb
    refine bcase_mk (fun hlt => ?_) fun hge => ?_
    · have hlt : i < xs.length := by have := of_decide_eq_true (hbb.trans hlt); omega
      obtain ⟨x, rfl, hx⟩ := (h1.quiet kp).at1 (i := i) (v := u32v xs[i]) (by simp [List.getElem?_eq_getElem hlt])
      obtain ⟨y, rfl, hy⟩ := (h2.quiet kp).at1 (i := i) (v := u32v (ys[i]'(by omega))) (by simp [List.getElem?_eq_getElem (show i < ys.length by omega)])
      have wi : IntKind.wrap .i64 ((i : Int) + 1) = ((i + 1 : Nat) : Int) := by rw [wrap64 (by omega) (by omega)]; omega
      rw [wi]
      refine ⟨⟨by omega, by omega⟩, _, hx, ⟨by omega, by omega⟩, _, hy, fun wd hd => ?_⟩
      have kd := kp.trans (Keep.drew NoB hd) fun _ _ h => h
      refine bcase_mk (fun hne => ⟨?_, kd⟩) fun heq => ⟨⟨i + 1, rfl, by omega, ?_, kd⟩, by show xs.length - ((i + 1 : Nat) : Int).toNat < xs.length - ((i : Nat) : Int).toNat; omega⟩
      · have hne : xs[i] ≠ ys[i]'(by omega) := by simpa using hne
        rw [decide_eq_false fun h => hne (by subst h; rfl)]
      · have heq : xs[i] = ys[i]'(by omega) := by simpa using heq
        rw [List.take_succ_eq_append_getElem hlt, List.take_succ_eq_append_getElem (show i < ys.length by omega), ht, heq]
    · have hie : i = xs.length := by have := of_decide_eq_false (hbb.trans hge); omega
      rw [hie, List.take_length, hlen, List.take_length] at ht
      exact ⟨by rw [decide_eq_true ht], kp⟩

theorem flatPC_at {xs : List PC} {i : Nat} {x : PC} (h : xs[i]? = some x) : (xs.flatMap encPC)[i * 4]? = some (.int .u32 x.id) ∧ (xs.flatMap encPC)[i * 4 + 1]? = some (.int .i64 x.block) ∧ (xs.flatMap encPC)[i * 4 + 2]? = some (.int .i64 x.refs) ∧ (xs.flatMap encPC)[i * 4 + 3]? = some (.int .i64 x.size) := by
  induction xs generalizing i with
  | nil => simp at h
  | cons y xs ih =>
    cases i with
    | zero => simp at h; subst h; exact ⟨rfl, rfl, rfl, rfl⟩
    | succ i =>
      have h2 := ih (i := i) (by simpa using h)
      have e : ∀ j, (i + 1) * 4 + j = 4 + (i * 4 + j) := fun j => by omega
      have g : ∀ k, ((y :: xs).flatMap encPC)[4 + k]? = (xs.flatMap encPC)[k]? := fun k => by
        rw [List.flatMap_cons, List.getElem?_append_right (by show 4 ≤ 4 + k; omega)]
        congr 1; show 4 + k - 4 = k; omega
      refine ⟨?_, ?_, ?_, ?_⟩
      · have := e 0; rw [Nat.add_zero, Nat.add_zero] at this; rw [this, g]; exact h2.1
      · rw [e 1, g]; exact h2.2.1
      · rw [e 2, g]; exact h2.2.2.1
      · rw [e 3, g]; exact h2.2.2.2
theorem flatPC_length (xs : List PC) : (xs.flatMap encPC).length = xs.length * 4 := by
  induction xs with
  | nil => rfl
  | cons x xs ih => rw [List.flatMap_cons, List.length_append, ih, List.length_cons]; show 4 + _ = _; omega
theorem Src.pc {a : Option Addr} {n c : Nat} {xs : List PC} (h : Src w 4 a n c (xs.flatMap encPC)) {i : Nat} {x : PC} (hi : xs[i]? = some x) :
    ∃ y, a = some y ∧ w.cell? ((y.add (i * 4)).add 0) = some (.int .u32 x.id) ∧ w.cell? ((y.add (i * 4)).add 1) = some (.int .i64 x.block) ∧ w.cell? ((y.add (i * 4)).add 2) = some (.int .i64 x.refs) ∧ w.cell? ((y.add (i * 4)).add 3) = some (.int .i64 x.size) := by
  obtain ⟨e0, e1, e2, e3⟩ := flatPC_at hi
  rcases h.2 with ⟨_, h0, _⟩ | ⟨y, rfl, hr⟩
  · have := h.1; rw [flatPC_length] at this; have := (List.getElem?_eq_some_iff.1 hi).1; omega
  · have aa : ∀ j, (y.add (i * 4)).add j = y.add (i * 4 + j) := fun j => by
      obtain ⟨b, o, s⟩ := y
      cases s with
      | none => simp [add_mk, Nat.add_assoc]
      | some sp => unfold Addr.add; split <;> (split <;> simp_all [Nat.add_assoc])
    exact ⟨y, rfl, by rw [aa]; exact hr _ _ e0, by rw [aa]; exact hr _ _ e1, by rw [aa]; exact hr _ _ e2, by rw [aa]; exact hr _ _ e3⟩

theorem eql_pc17 (w : World) (a b : PC) : eqlRun P .neq T.«revertref17_Chunk» (.agg ⟨encPC a⟩) (.agg ⟨encPC b⟩) w (!decide (a = b)) := by
  obtain ⟨r, _, h2, hi⟩ := eql_plain (P := P) (t := T.«revertref17_Chunk») (xs := ⟨encPC a⟩) (ys := ⟨encPC b⟩) (L := [(true, 0, T.«u32»), (true, 1, T.«i64'»), (true, 2, T.«i64'»), (true, 3, T.«i64'»)]) (by kernel_rfl) (by kernel_rfl) (by kernel_rfl) w (by kernel_rfl) (by
    have hu := Tryz.underlying48
    have hi := Tryz.underlying3
    intro x hx
    simp only [List.mem_cons, List.not_mem_nil, or_false] at hx
    rcases hx with rfl | rfl | rfl | rfl
    · exact ⟨rfl, _, _, rfl, rfl, .inl ⟨_, _, _, _, hu, rfl, rfl⟩⟩
    · exact ⟨rfl, _, _, rfl, rfl, .inl ⟨_, _, _, _, hi, rfl, rfl⟩⟩
    · exact ⟨rfl, _, _, rfl, rfl, .inl ⟨_, _, _, _, hi, rfl, rfl⟩⟩
    · exact ⟨rfl, _, _, rfl, rfl, .inl ⟨_, _, _, _, hi, rfl, rfl⟩⟩)
  have : r = decide (a = b) := by
    refine Bool.eq_iff_iff.2 (hi.trans ?_)
    obtain ⟨a1, a2, a3, a4⟩ := a
    obtain ⟨b1, b2, b3, b4⟩ := b
    simp [encPC]
  rw [← this]; exact h2

theorem r_Same {a b : Option Addr} {n m ca cb : Nat} {xs ys : List PC} (h1 : Src w 4 a n ca (xs.flatMap encPC)) (h2 : Src w 4 b m cb (ys.flatMap encPC)) (hl : xs.length ≤ 1000000) :
    Calls P F.«revertref17_Same» ⟨[.slice a n ca, .slice b m cb]⟩ w fun e w' => e = .returned (.bool (decide (xs = ys))) ∧ Keep NoB w w' := by
  refine ok_revertref17_Same ?_
  unfold V_revertref17_Same
  have hn : xs.length = n := by have := h1.1; rw [flatPC_length] at this; omega
  have hm : ys.length = m := by have := h2.1; rw [flatPC_length] at this; omega
  subst hn hm
  generalize hb0 : (((xs.length : Nat) : Int) != ((ys.length : Nat) : Int)) = b0
  refine bcase_mk (fun hne => ⟨?_, Keep.refl _ _⟩) fun heq => ?_
  · rw [hne] at hb0
    have : xs.length ≠ ys.length := by
      have h : ((xs.length : Nat) : Int) ≠ ys.length := by simpa using hb0
      omega
    rw [decide_eq_false fun h => this (by rw [h])]
  · have hlen : xs.length = ys.length := by rw [heq] at hb0; have : ((xs.length : Nat) : Int) = ys.length := by simpa using hb0
                                            omega
    refine ⟨fun p u => ∃ i : Nat, p.1 = (i : Int) ∧ i ≤ xs.length ∧ xs.take i = ys.take i ∧ Keep NoB w u, fun p _ => xs.length - p.1.toNat, ⟨0, rfl, Nat.zero_le _, rfl, Keep.refl _ _⟩, ?_⟩
    rintro _ k u ⟨i, hk, hi, ht, kp⟩
    have hk : k = (i : Int) := hk
    subst hk
    generalize hbb : decide ((i : Int) < ((xs.length : Nat) : Int)) = bb
    refine bcase_mk (fun hlt => ?_) fun hge => ?_
    · have hlt : i < xs.length := by have := of_decide_eq_true (hbb.trans hlt); omega
      obtain ⟨x, rfl, x0, x1, x2, x3⟩ := (h1.quiet kp).pc (i := i) (x := xs[i]) (List.getElem?_eq_getElem hlt)
      obtain ⟨y, rfl, y0, y1, y2, y3⟩ := (h2.quiet kp).pc (i := i) (x := ys[i]'(by omega)) (List.getElem?_eq_getElem (by omega))
      have wi : IntKind.wrap .i64 ((i : Int) + 1) = ((i + 1 : Nat) : Int) := by rw [wrap64 (by omega) (by omega)]; omega
      rw [wi]
      refine ⟨⟨by omega, by omega⟩, _, _, _, _, ⟨x0, x1, x2, x3, trivial⟩, ⟨by omega, by omega⟩, _, _, _, _, ⟨y0, y1, y2, y3, trivial⟩, _, eql_pc17 u xs[i] (ys[i]'(by omega)), fun wd hd => ?_⟩
      have kd := kp.trans (Keep.drew NoB hd) fun _ _ h => h
      refine bcase_mk (fun hne => ⟨?_, kd⟩) fun heq => ⟨⟨i + 1, rfl, by omega, ?_, kd⟩, by show xs.length - ((i + 1 : Nat) : Int).toNat < xs.length - ((i : Nat) : Int).toNat; omega⟩
      · have hne : xs[i] ≠ ys[i]'(by omega) := by simpa using hne
        rw [decide_eq_false fun h => hne (by subst h; rfl)]
      · have heq : xs[i] = ys[i]'(by omega) := by simpa using heq
        rw [List.take_succ_eq_append_getElem hlt, List.take_succ_eq_append_getElem (show i < ys.length by omega), ht, heq]
    · have hie : i = xs.length := by have := of_decide_eq_false (hbb.trans hge); omega
      rw [hie, List.take_length, hlen, List.take_length] at ht
      exact ⟨by rw [decide_eq_true ht], kp⟩

theorem ref17Ok : ElemOk P T.«l_revertref17_Chunk» T.«revertref17_Chunk» 4 32 := ⟨Tryz.underlying71, infoOk (z := .agg ⟨[.int .u32 0, .int .i64 0, .int .i64 0, .int .i64 0]⟩) (by kernel_rfl) rfl, by decide⟩
theorem encPC_one {x : PC} : ∀ u ∈ encPC x, u.oneCell' = true := by
  intro u hu
  simp only [encPC, List.mem_cons, List.not_mem_nil, or_false] at hu
  rcases hu with rfl | rfl | rfl | rfl <;> rfl

theorem r_theirs {a : Option Addr} {n ca : Nat} {xs : List PC} (h : Src w 4 a n ca (xs.flatMap encPC)) (hl : xs.length ≤ 1000000) :
    Calls P F.«revertlaw17_theirs» ⟨[.slice a n ca]⟩ w fun e w' => ∃ b c, e = .returned (.slice b xs.length c) ∧ Own w NoB [.sl T.«revertref17_Chunk» 4 b xs.length c (xs.flatMap encPC)] w' := by
  refine ok_revertlaw17_theirs ?_
  unfold V_revertlaw17_theirs
  have hn : xs.length = n := by have := h.1; rw [flatPC_length] at this; omega
  subst hn
  refine ⟨fun p u => ∃ (i : Nat) (b : Option Addr) (c : Nat), p = ((b, i, c), (i : Int), ()) ∧ i ≤ xs.length ∧ Own w NoB [.sl T.«revertref17_Chunk» 4 b i c ((xs.take i).flatMap encPC)] u, fun p _ => xs.length - p.2.1.toNat, ⟨0, none, 0, rfl, Nat.zero_le _, (Own.nil w).nilRow _ _⟩, ?_⟩
  rintro _ b l c k u ⟨i, b', c', he, hi, H⟩
  simp only [Prod.mk.injEq, and_true] at he
  obtain ⟨⟨rfl, rfl, rfl⟩, rfl⟩ := he
  generalize hbb : decide (((l : Nat) : Int) < ((xs.length : Nat) : Int)) = bb
  refine bcase_mk (fun hlt => ?_) fun hge => ?_
  · have hlt : l < xs.length := by have := of_decide_eq_true (hbb.trans hlt); omega
    obtain ⟨x, rfl, x0, x1, x2, x3⟩ := (h.quiet H.keep).pc (i := l) (x := xs[l]) (List.getElem?_eq_getElem hlt)
    have wi : IntKind.wrap .i64 ((l : Int) + 1) = ((l + 1 : Nat) : Int) := by rw [wrap64 (by omega) (by omega)]; omega
    rw [wi]
    refine ⟨⟨by omega, by omega⟩, _, _, _, _, ⟨x0, x1, x2, x3, trivial⟩, H.app1 (ty := T.«l_revertref17_Chunk») ref17Ok (v := .agg ⟨encPC xs[l]⟩) rfl (fun u hu => encPC_one u hu) (by omega) (by omega) fun a2 c2 v H => ⟨⟨l + 1, a2, c2, rfl, by omega, ?_⟩, by show xs.length - ((l + 1 : Nat) : Int).toNat < xs.length - ((l : Nat) : Int).toNat; omega⟩⟩
    rw [List.take_succ_eq_append_getElem hlt, List.flatMap_append]
    simpa [Value.cells] using H
  · have hie : l = xs.length := by have := of_decide_eq_false (hbb.trans hge); omega
    rw [hie, List.take_length] at H
    rw [hie]
    exact ⟨b, c, rfl, H⟩

theorem r_is {a b : Option Addr} {n m ca cb : Nat} {xs ys : List PC} (h1 : Src w 4 a n ca (xs.flatMap encPC)) (h2 : Src w 4 b m cb (ys.flatMap encPC)) (hl : xs.length ≤ 1000000) :
    Calls P F.«revertlaw17_is» ⟨[.slice a n ca, .slice b m cb]⟩ w fun e w' => e = .returned (.bool (decide (xs = ys))) ∧ Keep NoB w w' := by
  refine ok_revertlaw17_is ?_
  unfold V_revertlaw17_is
  refine (r_theirs h1 hl).mono ?_
  rintro _ u ⟨b', c', rfl, H⟩
  obtain ⟨_, hs⟩ := H.has i0
  refine ⟨_, _, _, rfl, (r_Same hs.2.srcAll (h2.quiet H.keep) hl).mono ?_⟩
  rintro _ v ⟨rfl, k⟩
  exact ⟨_, rfl, rfl, H.keep.trans k fun _ _ h => h⟩

variable {qb pb tq fq : Nat} {s : PS}
theorem r_puts (h : Sep (PQ qb pb tq fq s) w S) (d : ByteArray) (hd : d.size ≤ 1000) (hr : s.room) {b : Option Addr} {m cb : Nat} {ys : List Int} (h2 : Src w 1 b m cb (ys.map u32v)) (hsep : ∀ x, b = some x → ¬ S x.block)
    (h0 : (putR s (pcs d)).1 = 0) (hy : (putR s (pcs d)).2.1 = ys) :
    Calls P F.«revertlaw17_puts» ⟨[ptr qb, .string d, .slice b m cb]⟩ w fun e w' => e = .returned (.bool true) ∧ Own w S (PQ qb pb tq fq (putR s (pcs d)).2.2) w' := by
  refine ok_revertlaw17_puts ?_
  unfold V_revertlaw17_puts
  refine (q_Put h d hd hr).mono ?_
  have hlp := pcs_len d.size d (Nat.le_refl _)
  intro e u hh
  generalize hres : putR s (pcs d) = res at *
  rcases hh with ⟨h1, a, c, he, H⟩ | ⟨hne, _⟩
  · subst he
    refine ⟨_, _, _, _, rfl, bcase_mk (fun _ => ?_) fun h => by cases h⟩
    obtain ⟨_, hs⟩ := H.has i3
    have hyl : ys.length ≤ 1000000 := by
      rw [← hy]
      have go : ∀ (ds : List ByteArray) (s : PS), (putR s ds).2.1.length ≤ ds.length := by
        intro ds
        induction ds with
        | nil => intro s; exact Nat.le_refl _
        | cons d ds ih =>
          intro s
          unfold putR
          split
          · exact Nat.zero_le _
          · simp only [List.length_cons]; have := ih (oneR s d).2; omega
      have := go (pcs d) s; rw [hres] at this; omega
    subst hy
    refine (r_Ids hs.2.srcAll (h2.keep H.keep hsep) hyl).mono ?_
    rintro _ v ⟨rfl, k⟩
    exact ⟨_, rfl, by rw [decide_eq_true rfl], (H.quiet k).front3⟩
  · exact absurd h0 hne

def x64 : ByteArray := ⟨(List.replicate 64 (120 : UInt8)).toArray⟩
def f0 : Nat → Bool := fun _ => false
def st0 : PS := ⟨[], 1, f0⟩
def xy : ByteArray := x64 ++ bs [121]
def xx : ByteArray := x64 ++ x64
theorem pcs_xy : pcs xy = [x64, bs [121]] := by decide +kernel
theorem pcs_xx : pcs xx = [x64, x64] := by decide +kernel
def chB : List Chk := [⟨1, x64, 128, 3⟩, ⟨2, bs [121], 129, 1⟩]
def stA : PS := (putR st0 [x64, bs [121]]).2.2
def stB : PS := (putR stA [x64, x64]).2.2
theorem chk_eq {a b : Chk} (h : a.id = b.id ∧ a.data = b.data ∧ a.block = b.block ∧ a.refs = b.refs) : a = b := by
  obtain ⟨a1, a2, a3, a4⟩ := a
  obtain ⟨b1, b2, b3, b4⟩ := b
  simpa using h
theorem putA : (putR st0 [x64, bs [121]]).1 = 0 ∧ (putR st0 [x64, bs [121]]).2.1 = [1, 2] := by decide +kernel
theorem putB : (putR stA [x64, x64]).1 = 0 ∧ (putR stA [x64, x64]).2.1 = [1, 1] := by decide +kernel
theorem stB_L : stB.L.length = 2 ∧ (stB.L.map fun c => (c.id, c.block, c.refs, (c.data.size : Int))) = [(1, 128, 3, 64), (2, 129, 1, 1)] := by decide +kernel
theorem frees0 : frees f0 256 = 128 := by decide +kernel
theorem room0 : st0.room := by unfold PS.room; decide +kernel
theorem putR_room : ∀ (ds : List ByteArray) {s : PS}, s.room → (putR s ds).2.2.room
  | [], _, h => h
  | d :: ds, s, h => by
    unfold putR
    split
    · exact oneR_room h d
    · exact putR_room ds (oneR_room h d)
theorem sorted_ext : ∀ {a b : List Int}, a.Pairwise (· < ·) → b.Pairwise (· < ·) → (∀ x, x ∈ a ↔ x ∈ b) → a = b
  | [], [], _, _, _ => rfl
  | [], y :: b, _, _, h => by have := (h y).2 (by simp); cases this
  | x :: a, [], _, _, h => by have := (h x).1 (by simp); cases this
  | x :: a, y :: b, ha, hb, h => by
    obtain ⟨ha1, ha2⟩ := List.pairwise_cons.1 ha
    obtain ⟨hb1, hb2⟩ := List.pairwise_cons.1 hb
    have e : x = y := by
      have h1 := (h x).1 (by simp)
      have h2 := (h y).2 (by simp)
      rcases List.mem_cons.1 h1 with h1 | h1
      · exact h1
      · rcases List.mem_cons.1 h2 with h2 | h2
        · exact h2.symm
        · have := hb1 x h1; have := ha1 y h2; omega
    subst e
    have := sorted_ext ha2 hb2 fun z => by
      constructor
      · intro hz
        rcases List.mem_cons.1 ((h z).1 (by simp [hz])) with e | e
        · have := ha1 z hz; omega
        · exact e
      · intro hz
        rcases List.mem_cons.1 ((h z).2 (by simp [hz])) with e | e
        · have := hb1 z hz; omega
        · exact e
    rw [this]
theorem repeat64 : (⟨(Lib.repeatL (bs [120]).data.toList 64).toArray⟩ : ByteArray) = x64 := by decide +kernel

theorem r_given (w : World) : Calls P F.«revertlaw17_given» ⟨[]⟩ w fun e w' => ∃ pb qb lb db tq fq ls, e = .returned (.tuple ⟨[ptr pb, ptr qb]⟩) ∧ Own w NoB [Pol pb lb [] 1 f0, At qb (PlnO pb tq fq false), Ded tq stB.L stB.nx, Spc fq stB.f, Lin lb db ls] w' := by
  refine ok_revertlaw17_given ?_
  unfold V_revertlaw17_given
  refine (d_New w).mono ?_
  rintro _ u1 ⟨db, rfl, H⟩
  refine ⟨_, rfl, ?_⟩
  obtain ⟨S1, h1, back⟩ := H.foc0
  refine (l_New h1 (-1) (ca := none) (n := 0) (cc := 0) (cs := []) ⟨rfl, .inl ⟨rfl, rfl, rfl⟩⟩ (by simp)).mono ?_
  rintro _ u2 ⟨lb, rfl, h2⟩
  have H := back _ _ _ h2
  refine ⟨_, rfl, ?_⟩
  obtain ⟨S2, h2, back⟩ := H.foc0
  refine (o_Make h2).mono ?_
  rintro _ u3 ⟨pb, rfl, h3⟩
  have H : Own w NoB [Lin lb db _, Pol pb lb [] 1 f0] u3 := back _ _ _ h3
  refine ⟨_, rfl, ?_⟩
  obtain ⟨S3, h3⟩ := H.has i1
  refine (o_Begin h3 (by simp)).mono ?_
  rintro _ u4 ⟨qb, tq, fq, rfl, h4⟩
  have H := H.add h4
  refine ⟨_, rfl, (s_Repeat u4 (bs [120]) 64 (by omega) (by decide)).mono ?_⟩
  rintro _ u5 ⟨rfl, k5⟩
  rw [repeat64]
  have H := H.quiet k5
  refine ⟨_, rfl, bcase_mk (fun h => by cases h) fun _ => bcase_mk (fun h => by cases h) fun _ => ⟨by decide, ?_⟩⟩
  have H : Own w NoB (PQ qb pb tq fq st0 ++ [Lin lb db _, Pol pb lb [] 1 f0]) u5 := H.perm (List.perm_append_comm (l₁ := [Lin lb db _, Pol pb lb [] 1 f0]) (l₂ := PQ qb pb tq fq st0))
  have two : ∀ {v : World} {s : PS} {R : List Asrt} (a b : Int) (d : ByteArray) (_ : Own w NoB (PQ qb pb tq fq s ++ R) v) (_ : d.size ≤ 1000) (_ : s.room) (_ : (putR s (pcs d)).1 = 0) (_ : (putR s (pcs d)).2.1 = [a, b]) {Q : Ending → World → Prop}, (∀ u, Own w NoB (PQ qb pb tq fq (putR s (pcs d)).2.2 ++ R) u → Q (.returned (.bool true)) u) →
      ∃ (a21 : Option Addr) (l21 c21 : Nat), ∃ w21, (Instr.buildSlice T.«l_u32» 2 ⟨[(0, .int .u32 a), (1, .int .u32 b)]⟩).run P v = .ok (.slice a21 l21 c21) w21 ∧ Calls P F.«revertlaw17_puts» ⟨[ptr qb, .string d, .slice a21 l21 c21]⟩ w21 Q := by
    intro v s R a b d H hd hr h0 hy Q hQ
    obtain ⟨v1, hb, n1⟩ := buildSlice_list (P := P) (w := v) (n := 2) (es := [(0, .int .u32 a), (1, .int .u32 b)]) u32Ok [u32v a, u32v b] (fun v hv => by simp at hv; rcases hv with rfl | rfl <;> rfl) rfl (by omega) rfl (by omega) (by omega)
    refine ⟨_, _, _, _, hb, ?_⟩
    obtain ⟨S4, h4, back4⟩ := H.three
    have h5 : Sep (PQ qb pb tq fq s) v1 S4 := h4.loc (fun g hg => n1.keep.block g (Sep.lt h4 hg) fun h => h) n1.keep.size
    have hsrc : Src v1 1 (some ⟨v.heap.size, 0, none⟩) 2 2 ([a, b].map u32v) := ⟨rfl, .inr ⟨_, rfl, fun j x hj => cell_at n1.at_ (by simpa [Value.cells] using hj)⟩⟩
    refine (r_puts h5 d hd hr hsrc (fun x hx => by cases hx; exact fun hs => by have := Sep.lt h4 hs; simp at this) h0 hy).mono ?_
    rintro _ v2 ⟨rfl, H2⟩
    refine hQ v2 ?_
    have H3 := back4 _ _ _ _ _ (H2.since n1.keep)
    rw [List.append_nil] at H3
    exact H3
  refine two 1 2 xy H (by decide) room0 (by rw [pcs_xy]; exact putA.1) (by rw [pcs_xy]; exact putA.2) fun u6 H => ?_
  rw [pcs_xy] at H
  refine ⟨_, rfl, bcase_mk (fun h => by cases h) fun _ => ⟨by decide, ?_⟩⟩
  refine two 1 1 xx H (by decide) (putR_room _ room0) (by rw [pcs_xx]; exact putB.1) (by rw [pcs_xx]; exact putB.2) fun u7 H => ?_
  rw [pcs_xx] at H
  refine ⟨_, rfl, bcase_mk (fun h => by cases h) fun _ => ⟨pb, qb, lb, db, tq, fq, ⟨List.replicate 256 slot0, -1, [], 0, false⟩, rfl, ?_⟩⟩
  exact H.perm ((List.perm_append_comm (l₁ := PQ qb pb tq fq stB) (l₂ := [Lin lb db _, Pol pb lb [] 1 f0])).trans ((List.Perm.swap _ _ _).trans (List.Perm.cons _ (List.perm_append_comm (l₁ := [Lin lb db _]) (l₂ := PQ qb pb tq fq stB)))))

theorem r_awake (w : World) : Calls P F.«revertlaw17_awake» ⟨[]⟩ w fun e w' => e = .returned (.bool true) ∧ Keep NoB w w' := by
  refine ok_revertlaw17_awake ?_
  unfold V_revertlaw17_awake
  refine (r_given w).mono ?_
  rintro _ u1 ⟨pb, qb, lb, db, tq, fq, ls, rfl, H⟩
  refine ⟨_, _, rfl, bcase_mk (fun _ => ?_) fun h => by cases h⟩
  obtain ⟨S1, h1⟩ := H.has i0
  refine (o_Free h1).mono ?_
  rintro _ u2 ⟨rfl, k2⟩
  rw [frees0]
  have H := H.quiet k2
  refine ⟨_, rfl, bcase_mk (fun _ => ?_) fun h => by cases h⟩
  obtain ⟨tp, fp, H⟩ := Pol.op H
  obtain ⟨S2, ht0⟩ := H.has i1
  obtain ⟨S3, ht⟩ := H.has i4
  refine (q_Chunks (s := stB) H.ob ht H.ob ht0).mono ?_
  rintro _ u3 ⟨ids, hs, hm, a, c, rfl, h3⟩
  have hids : ids = [1, 2] := sorted_ext hs (by decide) fun x => by
    rw [hm]
    have e : ∀ x, (∃ c ∈ stB.L, c.id = x) ↔ x ∈ stB.L.map (·.id) := fun x => by simp
    have e2 : stB.L.map (·.id) = [1, 2] := by decide +kernel
    rw [e, e2]; simp
  subst hids
  have hd : [1, 2].filterMap (diffOne [] stB.L) = [⟨1, 128, 3, 64⟩, ⟨2, 129, 1, 1⟩] := by decide +kernel
  rw [hd] at h3 ⊢
  have H := H.add h3
  obtain ⟨u4, hb, n4⟩ := buildSlice_list (P := P) (w := u3) (n := 2) (es := [(0, .agg ⟨[.int .u32 1, .int .i64 128, .int .i64 3, .int .i64 64]⟩), (1, .agg ⟨[.int .u32 2, .int .i64 129, .int .i64 1, .int .i64 1]⟩)]) ref17Ok [.agg ⟨encPC ⟨1, 128, 3, 64⟩⟩, .agg ⟨encPC ⟨2, 129, 1, 1⟩⟩] (fun v hv => by simp at hv; rcases hv with rfl | rfl <;> rfl) rfl (by omega) rfl (by omega) (by omega)
  have H := H.quiet n4.keep
  obtain ⟨_, hs3⟩ := H.has (.tail _ (.tail _ (.tail _ (.tail _ (.tail _ (.tail _ (.tail _ (.head _))))))))
  refine ⟨_, _, _, rfl, _, _, _, _, hb, ?_⟩
  have hsrc : Src u4 4 (some ⟨u3.heap.size, 0, none⟩) 2 2 (([⟨1, 128, 3, 64⟩, ⟨2, 129, 1, 1⟩] : List PC).flatMap encPC) := ⟨rfl, .inr ⟨_, rfl, fun j x hj => cell_at n4.at_ (by simpa [Value.cells, encPC] using hj)⟩⟩
  refine (r_is hs3.2.srcAll hsrc (by simp)).mono ?_
  rintro _ u5 ⟨rfl, k5⟩
  have H := H.quiet k5
  refine ⟨_, rfl, bcase_mk (fun _ => ?_) fun h => by simp at h⟩
  have H := Pol.cl H
  obtain ⟨S4, h4, back⟩ := H.foc0
  refine (o_Chunks h4).mono ?_
  rintro _ u6 ⟨a6, c6, rfl, H⟩
  exact ⟨_, _, _, rfl, rfl, (back _ _ _ H).keep⟩
end
end Go.Proofs.YtgepmlgkeljelaaGreat.Vc
