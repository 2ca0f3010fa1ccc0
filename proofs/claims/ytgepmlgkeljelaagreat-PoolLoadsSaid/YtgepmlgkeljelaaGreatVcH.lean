/- Ownership: what a function holds of memory, part by part. -/
import Derived.Test.YtgepmlgkeljelaaGreatVcR
namespace Go.Proofs.YtgepmlgkeljelaaGreat.Vc
open Go

abbrev Foot := Nat → Prop

/-- A part of memory, with the blocks that it holds. -/
structure Asrt where
  on : World → Foot → Prop
  loc : ∀ {w u : World} {S : Foot}, on w S → (∀ g, S g → u.heap[g]? = w.heap[g]?) → w.heap.size ≤ u.heap.size → on u S
  lt : ∀ {w : World} {S : Foot} {g : Nat}, on w S → S g → g < w.heap.size

/-- Parts that lie apart. -/
def Sep : List Asrt → World → Foot → Prop
  | [], _, S => ∀ g, ¬ S g
  | A :: l, w, S => ∃ S1 S2, A.on w S1 ∧ Sep l w S2 ∧ (∀ g, S1 g → ¬ S2 g) ∧ ∀ g, S g ↔ (S1 g ∨ S2 g)

theorem Sep.loc : ∀ {l : List Asrt} {w u : World} {S : Foot}, Sep l w S → (∀ g, S g → u.heap[g]? = w.heap[g]?) → w.heap.size ≤ u.heap.size → Sep l u S
  | [], _, _, _, h, _, _ => h
  | _ :: _, _, _, _, ⟨S1, S2, h1, h2, hd, hs⟩, he, hz => ⟨S1, S2, Asrt.loc _ h1 (fun g hg => he g ((hs g).2 (.inl hg))) hz, h2.loc (fun g hg => he g ((hs g).2 (.inr hg))) hz, hd, hs⟩
theorem Sep.lt : ∀ {l : List Asrt} {w : World} {S : Foot} {g : Nat}, Sep l w S → S g → g < w.heap.size
  | [], _, _, g, h, hg => absurd hg (h g)
  | _ :: _, _, _, g, ⟨_, _, h1, h2, _, hs⟩, hg => ((hs g).1 hg).elim (Asrt.lt _ h1) h2.lt
theorem Sep.congr : ∀ {l : List Asrt} {w : World} {S S' : Foot}, Sep l w S → (∀ g, S' g ↔ S g) → Sep l w S'
  | [], _, _, _, h, e => fun g hg => h g ((e g).1 hg)
  | _ :: _, _, _, _, ⟨S1, S2, h1, h2, hd, hs⟩, e => ⟨S1, S2, h1, h2, hd, fun g => (e g).trans (hs g)⟩
theorem Sep.append : ∀ {l l' : List Asrt} {w : World} {S S' : Foot}, Sep l w S → Sep l' w S' → (∀ g, S g → ¬ S' g) → Sep (l ++ l') w (fun g => S g ∨ S' g)
  | [], _, _, _, _, h, h', _ => h'.congr fun g => ⟨fun hg => hg.resolve_left (h g), .inr⟩
  | _ :: _, _, _, _, _, ⟨S1, S2, h1, h2, hd, hs⟩, h', hd' => ⟨S1, _, h1, h2.append h' fun g hg => hd' g ((hs g).2 (.inr hg)), fun g hg hx => hx.elim (hd g hg) (hd' g ((hs g).2 (.inl hg))), fun g => by show (_ ∨ _) ↔ _; rw [hs g]; exact or_assoc⟩
theorem Sep.split : ∀ {l l' : List Asrt} {w : World} {S : Foot}, Sep (l ++ l') w S → ∃ S1 S2, Sep l w S1 ∧ Sep l' w S2 ∧ (∀ g, S1 g → ¬ S2 g) ∧ ∀ g, S g ↔ (S1 g ∨ S2 g)
  | [], _, _, S, h => ⟨fun _ => False, S, fun _ h => h, h, fun _ h => h.elim, fun g => by simp⟩
  | _ :: _, _, _, _, ⟨S1, S2, h1, h2, hd, hs⟩ => by
    obtain ⟨S3, S4, h3, h4, hd2, hs2⟩ := Sep.split h2
    refine ⟨fun g => S1 g ∨ S3 g, S4, ⟨S1, S3, h1, h3, fun g hg h => hd g hg ((hs2 g).2 (.inl h)), fun _ => Iff.rfl⟩, h4, fun g hg h => hg.elim (fun hg => hd g hg ((hs2 g).2 (.inr h))) (fun hg => hd2 g hg h), fun g => ?_⟩
    rw [hs g, hs2 g]; exact or_assoc.symm
theorem Sep.perm {l l' : List Asrt} (hp : l.Perm l') : ∀ {w : World} {S : Foot}, Sep l w S → Sep l' w S := by
  induction hp with
  | nil => exact fun h => h
  | cons _ _ ih => exact fun ⟨S1, S2, h1, h2, hd, hs⟩ => ⟨S1, S2, h1, ih h2, hd, hs⟩
  | swap A B l =>
    rintro w S ⟨S1, _, h1, ⟨S2, S3, h2, h3, hd2, hs2⟩, hd, hs⟩
    refine ⟨S2, fun g => S1 g ∨ S3 g, h2, ⟨S1, S3, h1, h3, fun g hg h => hd g hg ((hs2 g).2 (.inr h)), fun _ => Iff.rfl⟩, fun g hg hx => hx.elim (fun h => hd g h ((hs2 g).2 (.inl hg))) (hd2 g hg), fun g => ?_⟩
    rw [hs g, hs2 g]
    constructor
    · rintro (h | h | h)
      · exact .inr (.inl h)
      · exact .inl h
      · exact .inr (.inr h)
    · rintro (h | h | h)
      · exact .inr (.inl h)
      · exact .inl h
      · exact .inr (.inr h)
  | trans _ _ ih1 ih2 => exact fun h => ih2 (ih1 h)
theorem Sep.mem : ∀ {l : List Asrt} {A : Asrt} {w : World} {S : Foot}, A ∈ l → Sep l w S → ∃ S1, A.on w S1 ∧ ∀ g, S1 g → S g
  | _, _, _, _, .head _, ⟨S1, _, h1, _, _, hs⟩ => ⟨S1, h1, fun g hg => (hs g).2 (.inl hg)⟩
  | _, _, _, _, .tail _ hm, ⟨_, _, _, h2, _, hs⟩ => by
    obtain ⟨S3, h3, h4⟩ := Sep.mem hm h2
    exact ⟨S3, h3, fun g hg => (hs g).2 (.inr (h4 g hg))⟩

/-- In world w, come of W0 where S0 was held, the parts l are held. -/
structure Own (W0 : World) (S0 : Foot) (l : List Asrt) (w : World) : Prop where
  ex : ∃ S, Sep l w S ∧ ∀ g, S g → S0 g ∨ W0.heap.size ≤ g
  keep : Keep S0 W0 w

namespace Own
variable {W0 w u : World} {S0 : Foot} {l l' l1 l2 : List Asrt} {A B : Asrt}

theorem of {S : Foot} (h : Sep l w S) : Own w S l w := ⟨⟨S, h, fun _ h => .inl h⟩, Keep.refl _ _⟩
theorem of1 {S : Foot} (h : A.on w S) : Own w S [A] w := of ⟨S, fun _ => False, h, fun _ h => h, fun _ _ h => h, fun g => by simp⟩
theorem nil (w : World) : Own w NoB [] w := of fun _ h => h
theorem size (H : Own W0 S0 l w) : W0.heap.size ≤ w.heap.size := H.keep.size
theorem perm (H : Own W0 S0 l w) (hp : l.Perm l') : Own W0 S0 l' w := by
  obtain ⟨⟨S, h, hb⟩, k⟩ := H
  exact ⟨⟨S, h.perm hp, hb⟩, k⟩
/-- What a step does that was handed the parts l1. -/
theorem split (H : Own W0 S0 (l1 ++ l2) w) : ∃ S, Sep l1 w S ∧ ∀ l' w', Own w S l' w' → Own W0 S0 (l' ++ l2) w' := by
  obtain ⟨⟨S, h, hb⟩, k⟩ := H
  obtain ⟨S1, S2, h1, h2, hd, hs⟩ := h.split
  refine ⟨S1, h1, fun l' w' ⟨⟨S', h', hb'⟩, k'⟩ => ⟨⟨_, h'.append (h2.loc (fun g hg => k'.block g (h2.lt hg) fun hx => hd g hx hg) k'.size) fun g hg h2' => ?_, fun g hg => ?_⟩, k.trans k' fun g hg hx => ?_⟩⟩
  · rcases hb' g hg with hx | hx
    · exact hd g hx h2'
    · have := h2.lt h2'; omega
  · rcases hg with hg | hg
    · rcases hb' g hg with hx | hx
      · exact hb g ((hs g).2 (.inl hx))
      · have := k.size; exact .inr (by omega)
    · exact hb g ((hs g).2 (.inr hg))
  · rcases hb g ((hs g).2 (.inl hx)) with h | h
    · exact h
    · omega
theorem quiet (H : Own W0 S0 l w) (k : Keep NoB w u) : Own W0 S0 l u := by
  obtain ⟨⟨S, h, hb⟩, k0⟩ := H
  exact ⟨⟨S, h.loc (fun g hg => k.block g (h.lt hg) fun h => h) k.size, hb⟩, k0.trans k fun _ _ h => h.elim⟩
theorem drew (H : Own W0 S0 l w) (k : Drew w u) : Own W0 S0 l u := H.quiet (Keep.drew _ k)
/-- .. that was handed nothing, and made something new. -/
theorem add (H : Own W0 S0 l w) (h : Own w NoB l' u) : Own W0 S0 (l ++ l') u := by
  obtain ⟨⟨S, hs, hb⟩, k0⟩ := H
  obtain ⟨⟨S', hs', hb'⟩, k⟩ := h
  refine ⟨⟨_, (hs.loc (fun g hg => k.block g (hs.lt hg) fun h => h) k.size).append hs' fun g hg hx => ?_, fun g hg => ?_⟩, k0.trans k fun _ _ h => h.elim⟩
  · rcases hb' g hx with h | h
    · exact h
    · have := hs.lt hg; omega
  · rcases hg with hg | hg
    · exact hb g hg
    · rcases hb' g hg with h | h
      · exact h.elim
      · have := k0.size; exact .inr (by omega)
theorem has (H : Own W0 S0 l w) (hm : A ∈ l) : ∃ S, A.on w S := by
  obtain ⟨⟨S, h, _⟩, _⟩ := H
  obtain ⟨S1, h1, _⟩ := h.mem hm
  exact ⟨S1, h1⟩
/-- Parts are let go. -/
theorem drop (H : Own W0 S0 (A :: l) w) : Own W0 S0 l w := by
  obtain ⟨⟨S, ⟨S1, S2, _, h2, _, hs⟩, hb⟩, k⟩ := H
  exact ⟨⟨S2, h2, fun g hg => hb g ((hs g).2 (.inr hg))⟩, k⟩
theorem keepTo {n : Nat} (H : Own W0 S0 l w) : Own W0 S0 (l.take n) w := by
  obtain ⟨⟨S, h, hb⟩, k⟩ := H
  rw [← List.take_append_drop n l] at h
  obtain ⟨S1, S2, h1, _, _, hs⟩ := h.split
  exact ⟨⟨S1, h1, fun g hg => hb g ((hs g).2 (.inl hg))⟩, k⟩
/-- A part told of otherwise. -/
theorem turn (H : Own W0 S0 (A :: l) w) (h : ∀ S, A.on w S → B.on w S) : Own W0 S0 (B :: l) w := by
  obtain ⟨⟨S, ⟨S1, S2, h1, h2, hd, hs⟩, hb⟩, k⟩ := H
  exact ⟨⟨S, ⟨S1, S2, h _ h1, h2, hd, hs⟩, hb⟩, k⟩
/-- One call behind another. -/
theorem trans {S1 : Foot} (H : Own W0 S0 l w) (hs : Sep l w S1) (hb : ∀ g, S1 g → S0 g ∨ W0.heap.size ≤ g) (h : Own w S1 l' u) : Own W0 S0 l' u := by
  obtain ⟨⟨S', h', hb'⟩, k'⟩ := h
  refine ⟨⟨S', h', fun g hg => ?_⟩, H.keep.trans k' fun g hg hx => (hb g hx).resolve_right (by omega)⟩
  rcases hb' g hg with hx | hx
  · exact hb g hx
  · have := H.keep.size; exact .inr (by omega)
theorem all (H : Own W0 S0 l w) : ∃ S, Sep l w S ∧ ∀ l' w', Own w S l' w' → Own W0 S0 l' w' := by
  have H2 := H
  obtain ⟨⟨S, h, hb⟩, k⟩ := H
  exact ⟨S, h, fun l' w' h' => H2.trans h hb h'⟩
theorem foc0 (H : Own W0 S0 (B :: l) w) : ∃ S, B.on w S ∧ ∀ B' ls w', Own w S (B' :: ls) w' → Own W0 S0 (B' :: (l ++ ls)) w' := by
  have H1 : Own W0 S0 ([B] ++ ([] ++ l)) w := H
  obtain ⟨S, ⟨S1, S2, h1, h2, _, hs⟩, hk⟩ := H1.split
  refine ⟨S1, h1, fun B' ls w' h => ?_⟩
  have e : ∀ g, S g ↔ S1 g := fun g => (hs g).trans ⟨fun h => h.resolve_right (h2 g), .inl⟩
  have h' : Own w S (B' :: ls) w' := by rwa [show S = S1 from funext fun g => propext (e g)]
  refine (hk _ _ h').perm ?_
  have p1 : (B' :: ls ++ ([] ++ l)).Perm (B' :: ([] ++ (l ++ ls))) := by
    refine List.Perm.cons _ ?_
    rw [← List.append_assoc]
    exact List.perm_append_comm
  exact p1
theorem up0 (H : Own W0 S0 (B :: l) w) : Own W0 S0 (B :: l) w := H
theorem dn0 (H : Own W0 S0 (B :: l) w) : Own W0 S0 (B :: l) w := H
theorem rid0 (H : Own W0 S0 (B :: l) w) : Own W0 S0 (l) w := H.up0.drop
theorem turn0 {C : Asrt} (H : Own W0 S0 (B :: l) w) (h : ∀ S, B.on w S → C.on w S) : Own W0 S0 (C :: l) w := (H.up0.turn h).dn0
theorem foc1 {A0 : Asrt} (H : Own W0 S0 (A0 :: B :: l) w) : ∃ S, B.on w S ∧ ∀ B' ls w', Own w S (B' :: ls) w' → Own W0 S0 (A0 :: B' :: (l ++ ls)) w' := by
  have H1 : Own W0 S0 ([B] ++ ([A0] ++ l)) w := H.perm (by simpa using List.perm_middle (a := B) (l₁ := [A0]) (l₂ := l))
  obtain ⟨S, ⟨S1, S2, h1, h2, _, hs⟩, hk⟩ := H1.split
  refine ⟨S1, h1, fun B' ls w' h => ?_⟩
  have e : ∀ g, S g ↔ S1 g := fun g => (hs g).trans ⟨fun h => h.resolve_right (h2 g), .inl⟩
  have h' : Own w S (B' :: ls) w' := by rwa [show S = S1 from funext fun g => propext (e g)]
  refine (hk _ _ h').perm ?_
  have p1 : (B' :: ls ++ ([A0] ++ l)).Perm (B' :: ([A0] ++ (l ++ ls))) := by
    refine List.Perm.cons _ ?_
    rw [← List.append_assoc]
    exact List.perm_append_comm
  exact p1.trans (by simpa using (List.perm_middle (a := B') (l₁ := [A0]) (l₂ := l ++ ls)).symm)
theorem up1 {A0 : Asrt} (H : Own W0 S0 (A0 :: B :: l) w) : Own W0 S0 (B :: A0 :: l) w := H.perm (by simpa using List.perm_middle (a := B) (l₁ := [A0]) (l₂ := l))
theorem dn1 {A0 : Asrt} (H : Own W0 S0 (B :: A0 :: l) w) : Own W0 S0 (A0 :: B :: l) w := H.perm (by simpa using (List.perm_middle (a := B) (l₁ := [A0]) (l₂ := l)).symm)
theorem rid1 {A0 : Asrt} (H : Own W0 S0 (A0 :: B :: l) w) : Own W0 S0 (A0 :: l) w := H.up1.drop
theorem turn1 {A0 : Asrt} {C : Asrt} (H : Own W0 S0 (A0 :: B :: l) w) (h : ∀ S, B.on w S → C.on w S) : Own W0 S0 (A0 :: C :: l) w := (H.up1.turn h).dn1
theorem foc2 {A0 A1 : Asrt} (H : Own W0 S0 (A0 :: A1 :: B :: l) w) : ∃ S, B.on w S ∧ ∀ B' ls w', Own w S (B' :: ls) w' → Own W0 S0 (A0 :: A1 :: B' :: (l ++ ls)) w' := by
  have H1 : Own W0 S0 ([B] ++ ([A0, A1] ++ l)) w := H.perm (by simpa using List.perm_middle (a := B) (l₁ := [A0, A1]) (l₂ := l))
  obtain ⟨S, ⟨S1, S2, h1, h2, _, hs⟩, hk⟩ := H1.split
  refine ⟨S1, h1, fun B' ls w' h => ?_⟩
  have e : ∀ g, S g ↔ S1 g := fun g => (hs g).trans ⟨fun h => h.resolve_right (h2 g), .inl⟩
  have h' : Own w S (B' :: ls) w' := by rwa [show S = S1 from funext fun g => propext (e g)]
  refine (hk _ _ h').perm ?_
  have p1 : (B' :: ls ++ ([A0, A1] ++ l)).Perm (B' :: ([A0, A1] ++ (l ++ ls))) := by
    refine List.Perm.cons _ ?_
    rw [← List.append_assoc]
    exact List.perm_append_comm
  exact p1.trans (by simpa using (List.perm_middle (a := B') (l₁ := [A0, A1]) (l₂ := l ++ ls)).symm)
theorem up2 {A0 A1 : Asrt} (H : Own W0 S0 (A0 :: A1 :: B :: l) w) : Own W0 S0 (B :: A0 :: A1 :: l) w := H.perm (by simpa using List.perm_middle (a := B) (l₁ := [A0, A1]) (l₂ := l))
theorem dn2 {A0 A1 : Asrt} (H : Own W0 S0 (B :: A0 :: A1 :: l) w) : Own W0 S0 (A0 :: A1 :: B :: l) w := H.perm (by simpa using (List.perm_middle (a := B) (l₁ := [A0, A1]) (l₂ := l)).symm)
theorem rid2 {A0 A1 : Asrt} (H : Own W0 S0 (A0 :: A1 :: B :: l) w) : Own W0 S0 (A0 :: A1 :: l) w := H.up2.drop
theorem turn2 {A0 A1 : Asrt} {C : Asrt} (H : Own W0 S0 (A0 :: A1 :: B :: l) w) (h : ∀ S, B.on w S → C.on w S) : Own W0 S0 (A0 :: A1 :: C :: l) w := (H.up2.turn h).dn2
theorem foc3 {A0 A1 A2 : Asrt} (H : Own W0 S0 (A0 :: A1 :: A2 :: B :: l) w) : ∃ S, B.on w S ∧ ∀ B' ls w', Own w S (B' :: ls) w' → Own W0 S0 (A0 :: A1 :: A2 :: B' :: (l ++ ls)) w' := by
  have H1 : Own W0 S0 ([B] ++ ([A0, A1, A2] ++ l)) w := H.perm (by simpa using List.perm_middle (a := B) (l₁ := [A0, A1, A2]) (l₂ := l))
  obtain ⟨S, ⟨S1, S2, h1, h2, _, hs⟩, hk⟩ := H1.split
  refine ⟨S1, h1, fun B' ls w' h => ?_⟩
  have e : ∀ g, S g ↔ S1 g := fun g => (hs g).trans ⟨fun h => h.resolve_right (h2 g), .inl⟩
  have h' : Own w S (B' :: ls) w' := by rwa [show S = S1 from funext fun g => propext (e g)]
  refine (hk _ _ h').perm ?_
  have p1 : (B' :: ls ++ ([A0, A1, A2] ++ l)).Perm (B' :: ([A0, A1, A2] ++ (l ++ ls))) := by
    refine List.Perm.cons _ ?_
    rw [← List.append_assoc]
    exact List.perm_append_comm
  exact p1.trans (by simpa using (List.perm_middle (a := B') (l₁ := [A0, A1, A2]) (l₂ := l ++ ls)).symm)
theorem up3 {A0 A1 A2 : Asrt} (H : Own W0 S0 (A0 :: A1 :: A2 :: B :: l) w) : Own W0 S0 (B :: A0 :: A1 :: A2 :: l) w := H.perm (by simpa using List.perm_middle (a := B) (l₁ := [A0, A1, A2]) (l₂ := l))
theorem dn3 {A0 A1 A2 : Asrt} (H : Own W0 S0 (B :: A0 :: A1 :: A2 :: l) w) : Own W0 S0 (A0 :: A1 :: A2 :: B :: l) w := H.perm (by simpa using (List.perm_middle (a := B) (l₁ := [A0, A1, A2]) (l₂ := l)).symm)
theorem rid3 {A0 A1 A2 : Asrt} (H : Own W0 S0 (A0 :: A1 :: A2 :: B :: l) w) : Own W0 S0 (A0 :: A1 :: A2 :: l) w := H.up3.drop
theorem turn3 {A0 A1 A2 : Asrt} {C : Asrt} (H : Own W0 S0 (A0 :: A1 :: A2 :: B :: l) w) (h : ∀ S, B.on w S → C.on w S) : Own W0 S0 (A0 :: A1 :: A2 :: C :: l) w := (H.up3.turn h).dn3
theorem foc4 {A0 A1 A2 A3 : Asrt} (H : Own W0 S0 (A0 :: A1 :: A2 :: A3 :: B :: l) w) : ∃ S, B.on w S ∧ ∀ B' ls w', Own w S (B' :: ls) w' → Own W0 S0 (A0 :: A1 :: A2 :: A3 :: B' :: (l ++ ls)) w' := by
  have H1 : Own W0 S0 ([B] ++ ([A0, A1, A2, A3] ++ l)) w := H.perm (by simpa using List.perm_middle (a := B) (l₁ := [A0, A1, A2, A3]) (l₂ := l))
  obtain ⟨S, ⟨S1, S2, h1, h2, _, hs⟩, hk⟩ := H1.split
  refine ⟨S1, h1, fun B' ls w' h => ?_⟩
  have e : ∀ g, S g ↔ S1 g := fun g => (hs g).trans ⟨fun h => h.resolve_right (h2 g), .inl⟩
  have h' : Own w S (B' :: ls) w' := by rwa [show S = S1 from funext fun g => propext (e g)]
  refine (hk _ _ h').perm ?_
  have p1 : (B' :: ls ++ ([A0, A1, A2, A3] ++ l)).Perm (B' :: ([A0, A1, A2, A3] ++ (l ++ ls))) := by
    refine List.Perm.cons _ ?_
    rw [← List.append_assoc]
    exact List.perm_append_comm
  exact p1.trans (by simpa using (List.perm_middle (a := B') (l₁ := [A0, A1, A2, A3]) (l₂ := l ++ ls)).symm)
theorem up4 {A0 A1 A2 A3 : Asrt} (H : Own W0 S0 (A0 :: A1 :: A2 :: A3 :: B :: l) w) : Own W0 S0 (B :: A0 :: A1 :: A2 :: A3 :: l) w := H.perm (by simpa using List.perm_middle (a := B) (l₁ := [A0, A1, A2, A3]) (l₂ := l))
theorem dn4 {A0 A1 A2 A3 : Asrt} (H : Own W0 S0 (B :: A0 :: A1 :: A2 :: A3 :: l) w) : Own W0 S0 (A0 :: A1 :: A2 :: A3 :: B :: l) w := H.perm (by simpa using (List.perm_middle (a := B) (l₁ := [A0, A1, A2, A3]) (l₂ := l)).symm)
theorem rid4 {A0 A1 A2 A3 : Asrt} (H : Own W0 S0 (A0 :: A1 :: A2 :: A3 :: B :: l) w) : Own W0 S0 (A0 :: A1 :: A2 :: A3 :: l) w := H.up4.drop
theorem turn4 {A0 A1 A2 A3 : Asrt} {C : Asrt} (H : Own W0 S0 (A0 :: A1 :: A2 :: A3 :: B :: l) w) (h : ∀ S, B.on w S → C.on w S) : Own W0 S0 (A0 :: A1 :: A2 :: A3 :: C :: l) w := (H.up4.turn h).dn4
theorem foc5 {A0 A1 A2 A3 A4 : Asrt} (H : Own W0 S0 (A0 :: A1 :: A2 :: A3 :: A4 :: B :: l) w) : ∃ S, B.on w S ∧ ∀ B' ls w', Own w S (B' :: ls) w' → Own W0 S0 (A0 :: A1 :: A2 :: A3 :: A4 :: B' :: (l ++ ls)) w' := by
  have H1 : Own W0 S0 ([B] ++ ([A0, A1, A2, A3, A4] ++ l)) w := H.perm (by simpa using List.perm_middle (a := B) (l₁ := [A0, A1, A2, A3, A4]) (l₂ := l))
  obtain ⟨S, ⟨S1, S2, h1, h2, _, hs⟩, hk⟩ := H1.split
  refine ⟨S1, h1, fun B' ls w' h => ?_⟩
  have e : ∀ g, S g ↔ S1 g := fun g => (hs g).trans ⟨fun h => h.resolve_right (h2 g), .inl⟩
  have h' : Own w S (B' :: ls) w' := by rwa [show S = S1 from funext fun g => propext (e g)]
  refine (hk _ _ h').perm ?_
  have p1 : (B' :: ls ++ ([A0, A1, A2, A3, A4] ++ l)).Perm (B' :: ([A0, A1, A2, A3, A4] ++ (l ++ ls))) := by
    refine List.Perm.cons _ ?_
    rw [← List.append_assoc]
    exact List.perm_append_comm
  exact p1.trans (by simpa using (List.perm_middle (a := B') (l₁ := [A0, A1, A2, A3, A4]) (l₂ := l ++ ls)).symm)
theorem up5 {A0 A1 A2 A3 A4 : Asrt} (H : Own W0 S0 (A0 :: A1 :: A2 :: A3 :: A4 :: B :: l) w) : Own W0 S0 (B :: A0 :: A1 :: A2 :: A3 :: A4 :: l) w := H.perm (by simpa using List.perm_middle (a := B) (l₁ := [A0, A1, A2, A3, A4]) (l₂ := l))
theorem dn5 {A0 A1 A2 A3 A4 : Asrt} (H : Own W0 S0 (B :: A0 :: A1 :: A2 :: A3 :: A4 :: l) w) : Own W0 S0 (A0 :: A1 :: A2 :: A3 :: A4 :: B :: l) w := H.perm (by simpa using (List.perm_middle (a := B) (l₁ := [A0, A1, A2, A3, A4]) (l₂ := l)).symm)
theorem rid5 {A0 A1 A2 A3 A4 : Asrt} (H : Own W0 S0 (A0 :: A1 :: A2 :: A3 :: A4 :: B :: l) w) : Own W0 S0 (A0 :: A1 :: A2 :: A3 :: A4 :: l) w := H.up5.drop
theorem turn5 {A0 A1 A2 A3 A4 : Asrt} {C : Asrt} (H : Own W0 S0 (A0 :: A1 :: A2 :: A3 :: A4 :: B :: l) w) (h : ∀ S, B.on w S → C.on w S) : Own W0 S0 (A0 :: A1 :: A2 :: A3 :: A4 :: C :: l) w := (H.up5.turn h).dn5
theorem foc6 {A0 A1 A2 A3 A4 A5 : Asrt} (H : Own W0 S0 (A0 :: A1 :: A2 :: A3 :: A4 :: A5 :: B :: l) w) : ∃ S, B.on w S ∧ ∀ B' ls w', Own w S (B' :: ls) w' → Own W0 S0 (A0 :: A1 :: A2 :: A3 :: A4 :: A5 :: B' :: (l ++ ls)) w' := by
  have H1 : Own W0 S0 ([B] ++ ([A0, A1, A2, A3, A4, A5] ++ l)) w := H.perm (by simpa using List.perm_middle (a := B) (l₁ := [A0, A1, A2, A3, A4, A5]) (l₂ := l))
  obtain ⟨S, ⟨S1, S2, h1, h2, _, hs⟩, hk⟩ := H1.split
  refine ⟨S1, h1, fun B' ls w' h => ?_⟩
  have e : ∀ g, S g ↔ S1 g := fun g => (hs g).trans ⟨fun h => h.resolve_right (h2 g), .inl⟩
  have h' : Own w S (B' :: ls) w' := by rwa [show S = S1 from funext fun g => propext (e g)]
  refine (hk _ _ h').perm ?_
  have p1 : (B' :: ls ++ ([A0, A1, A2, A3, A4, A5] ++ l)).Perm (B' :: ([A0, A1, A2, A3, A4, A5] ++ (l ++ ls))) := by
    refine List.Perm.cons _ ?_
    rw [← List.append_assoc]
    exact List.perm_append_comm
  exact p1.trans (by simpa using (List.perm_middle (a := B') (l₁ := [A0, A1, A2, A3, A4, A5]) (l₂ := l ++ ls)).symm)
theorem up6 {A0 A1 A2 A3 A4 A5 : Asrt} (H : Own W0 S0 (A0 :: A1 :: A2 :: A3 :: A4 :: A5 :: B :: l) w) : Own W0 S0 (B :: A0 :: A1 :: A2 :: A3 :: A4 :: A5 :: l) w := H.perm (by simpa using List.perm_middle (a := B) (l₁ := [A0, A1, A2, A3, A4, A5]) (l₂ := l))
theorem dn6 {A0 A1 A2 A3 A4 A5 : Asrt} (H : Own W0 S0 (B :: A0 :: A1 :: A2 :: A3 :: A4 :: A5 :: l) w) : Own W0 S0 (A0 :: A1 :: A2 :: A3 :: A4 :: A5 :: B :: l) w := H.perm (by simpa using (List.perm_middle (a := B) (l₁ := [A0, A1, A2, A3, A4, A5]) (l₂ := l)).symm)
theorem rid6 {A0 A1 A2 A3 A4 A5 : Asrt} (H : Own W0 S0 (A0 :: A1 :: A2 :: A3 :: A4 :: A5 :: B :: l) w) : Own W0 S0 (A0 :: A1 :: A2 :: A3 :: A4 :: A5 :: l) w := H.up6.drop
theorem turn6 {A0 A1 A2 A3 A4 A5 : Asrt} {C : Asrt} (H : Own W0 S0 (A0 :: A1 :: A2 :: A3 :: A4 :: A5 :: B :: l) w) (h : ∀ S, B.on w S → C.on w S) : Own W0 S0 (A0 :: A1 :: A2 :: A3 :: A4 :: A5 :: C :: l) w := (H.up6.turn h).dn6
theorem foc7 {A0 A1 A2 A3 A4 A5 A6 : Asrt} (H : Own W0 S0 (A0 :: A1 :: A2 :: A3 :: A4 :: A5 :: A6 :: B :: l) w) : ∃ S, B.on w S ∧ ∀ B' ls w', Own w S (B' :: ls) w' → Own W0 S0 (A0 :: A1 :: A2 :: A3 :: A4 :: A5 :: A6 :: B' :: (l ++ ls)) w' := by
  have H1 : Own W0 S0 ([B] ++ ([A0, A1, A2, A3, A4, A5, A6] ++ l)) w := H.perm (by simpa using List.perm_middle (a := B) (l₁ := [A0, A1, A2, A3, A4, A5, A6]) (l₂ := l))
  obtain ⟨S, ⟨S1, S2, h1, h2, _, hs⟩, hk⟩ := H1.split
  refine ⟨S1, h1, fun B' ls w' h => ?_⟩
  have e : ∀ g, S g ↔ S1 g := fun g => (hs g).trans ⟨fun h => h.resolve_right (h2 g), .inl⟩
  have h' : Own w S (B' :: ls) w' := by rwa [show S = S1 from funext fun g => propext (e g)]
  refine (hk _ _ h').perm ?_
  have p1 : (B' :: ls ++ ([A0, A1, A2, A3, A4, A5, A6] ++ l)).Perm (B' :: ([A0, A1, A2, A3, A4, A5, A6] ++ (l ++ ls))) := by
    refine List.Perm.cons _ ?_
    rw [← List.append_assoc]
    exact List.perm_append_comm
  exact p1.trans (by simpa using (List.perm_middle (a := B') (l₁ := [A0, A1, A2, A3, A4, A5, A6]) (l₂ := l ++ ls)).symm)
theorem up7 {A0 A1 A2 A3 A4 A5 A6 : Asrt} (H : Own W0 S0 (A0 :: A1 :: A2 :: A3 :: A4 :: A5 :: A6 :: B :: l) w) : Own W0 S0 (B :: A0 :: A1 :: A2 :: A3 :: A4 :: A5 :: A6 :: l) w := H.perm (by simpa using List.perm_middle (a := B) (l₁ := [A0, A1, A2, A3, A4, A5, A6]) (l₂ := l))
theorem dn7 {A0 A1 A2 A3 A4 A5 A6 : Asrt} (H : Own W0 S0 (B :: A0 :: A1 :: A2 :: A3 :: A4 :: A5 :: A6 :: l) w) : Own W0 S0 (A0 :: A1 :: A2 :: A3 :: A4 :: A5 :: A6 :: B :: l) w := H.perm (by simpa using (List.perm_middle (a := B) (l₁ := [A0, A1, A2, A3, A4, A5, A6]) (l₂ := l)).symm)
theorem rid7 {A0 A1 A2 A3 A4 A5 A6 : Asrt} (H : Own W0 S0 (A0 :: A1 :: A2 :: A3 :: A4 :: A5 :: A6 :: B :: l) w) : Own W0 S0 (A0 :: A1 :: A2 :: A3 :: A4 :: A5 :: A6 :: l) w := H.up7.drop
theorem turn7 {A0 A1 A2 A3 A4 A5 A6 : Asrt} {C : Asrt} (H : Own W0 S0 (A0 :: A1 :: A2 :: A3 :: A4 :: A5 :: A6 :: B :: l) w) (h : ∀ S, B.on w S → C.on w S) : Own W0 S0 (A0 :: A1 :: A2 :: A3 :: A4 :: A5 :: A6 :: C :: l) w := (H.up7.turn h).dn7
theorem foc8 {A0 A1 A2 A3 A4 A5 A6 A7 : Asrt} (H : Own W0 S0 (A0 :: A1 :: A2 :: A3 :: A4 :: A5 :: A6 :: A7 :: B :: l) w) : ∃ S, B.on w S ∧ ∀ B' ls w', Own w S (B' :: ls) w' → Own W0 S0 (A0 :: A1 :: A2 :: A3 :: A4 :: A5 :: A6 :: A7 :: B' :: (l ++ ls)) w' := by
  have H1 : Own W0 S0 ([B] ++ ([A0, A1, A2, A3, A4, A5, A6, A7] ++ l)) w := H.perm (by simpa using List.perm_middle (a := B) (l₁ := [A0, A1, A2, A3, A4, A5, A6, A7]) (l₂ := l))
  obtain ⟨S, ⟨S1, S2, h1, h2, _, hs⟩, hk⟩ := H1.split
  refine ⟨S1, h1, fun B' ls w' h => ?_⟩
  have e : ∀ g, S g ↔ S1 g := fun g => (hs g).trans ⟨fun h => h.resolve_right (h2 g), .inl⟩
  have h' : Own w S (B' :: ls) w' := by rwa [show S = S1 from funext fun g => propext (e g)]
  refine (hk _ _ h').perm ?_
  have p1 : (B' :: ls ++ ([A0, A1, A2, A3, A4, A5, A6, A7] ++ l)).Perm (B' :: ([A0, A1, A2, A3, A4, A5, A6, A7] ++ (l ++ ls))) := by
    refine List.Perm.cons _ ?_
    rw [← List.append_assoc]
    exact List.perm_append_comm
  exact p1.trans (by simpa using (List.perm_middle (a := B') (l₁ := [A0, A1, A2, A3, A4, A5, A6, A7]) (l₂ := l ++ ls)).symm)
theorem up8 {A0 A1 A2 A3 A4 A5 A6 A7 : Asrt} (H : Own W0 S0 (A0 :: A1 :: A2 :: A3 :: A4 :: A5 :: A6 :: A7 :: B :: l) w) : Own W0 S0 (B :: A0 :: A1 :: A2 :: A3 :: A4 :: A5 :: A6 :: A7 :: l) w := H.perm (by simpa using List.perm_middle (a := B) (l₁ := [A0, A1, A2, A3, A4, A5, A6, A7]) (l₂ := l))
theorem dn8 {A0 A1 A2 A3 A4 A5 A6 A7 : Asrt} (H : Own W0 S0 (B :: A0 :: A1 :: A2 :: A3 :: A4 :: A5 :: A6 :: A7 :: l) w) : Own W0 S0 (A0 :: A1 :: A2 :: A3 :: A4 :: A5 :: A6 :: A7 :: B :: l) w := H.perm (by simpa using (List.perm_middle (a := B) (l₁ := [A0, A1, A2, A3, A4, A5, A6, A7]) (l₂ := l)).symm)
theorem rid8 {A0 A1 A2 A3 A4 A5 A6 A7 : Asrt} (H : Own W0 S0 (A0 :: A1 :: A2 :: A3 :: A4 :: A5 :: A6 :: A7 :: B :: l) w) : Own W0 S0 (A0 :: A1 :: A2 :: A3 :: A4 :: A5 :: A6 :: A7 :: l) w := H.up8.drop
theorem turn8 {A0 A1 A2 A3 A4 A5 A6 A7 : Asrt} {C : Asrt} (H : Own W0 S0 (A0 :: A1 :: A2 :: A3 :: A4 :: A5 :: A6 :: A7 :: B :: l) w) (h : ∀ S, B.on w S → C.on w S) : Own W0 S0 (A0 :: A1 :: A2 :: A3 :: A4 :: A5 :: A6 :: A7 :: C :: l) w := (H.up8.turn h).dn8
theorem foc9 {A0 A1 A2 A3 A4 A5 A6 A7 A8 : Asrt} (H : Own W0 S0 (A0 :: A1 :: A2 :: A3 :: A4 :: A5 :: A6 :: A7 :: A8 :: B :: l) w) : ∃ S, B.on w S ∧ ∀ B' ls w', Own w S (B' :: ls) w' → Own W0 S0 (A0 :: A1 :: A2 :: A3 :: A4 :: A5 :: A6 :: A7 :: A8 :: B' :: (l ++ ls)) w' := by
  have H1 : Own W0 S0 ([B] ++ ([A0, A1, A2, A3, A4, A5, A6, A7, A8] ++ l)) w := H.perm (by simpa using List.perm_middle (a := B) (l₁ := [A0, A1, A2, A3, A4, A5, A6, A7, A8]) (l₂ := l))
  obtain ⟨S, ⟨S1, S2, h1, h2, _, hs⟩, hk⟩ := H1.split
  refine ⟨S1, h1, fun B' ls w' h => ?_⟩
  have e : ∀ g, S g ↔ S1 g := fun g => (hs g).trans ⟨fun h => h.resolve_right (h2 g), .inl⟩
  have h' : Own w S (B' :: ls) w' := by rwa [show S = S1 from funext fun g => propext (e g)]
  refine (hk _ _ h').perm ?_
  have p1 : (B' :: ls ++ ([A0, A1, A2, A3, A4, A5, A6, A7, A8] ++ l)).Perm (B' :: ([A0, A1, A2, A3, A4, A5, A6, A7, A8] ++ (l ++ ls))) := by
    refine List.Perm.cons _ ?_
    rw [← List.append_assoc]
    exact List.perm_append_comm
  exact p1.trans (by simpa using (List.perm_middle (a := B') (l₁ := [A0, A1, A2, A3, A4, A5, A6, A7, A8]) (l₂ := l ++ ls)).symm)
theorem up9 {A0 A1 A2 A3 A4 A5 A6 A7 A8 : Asrt} (H : Own W0 S0 (A0 :: A1 :: A2 :: A3 :: A4 :: A5 :: A6 :: A7 :: A8 :: B :: l) w) : Own W0 S0 (B :: A0 :: A1 :: A2 :: A3 :: A4 :: A5 :: A6 :: A7 :: A8 :: l) w := H.perm (by simpa using List.perm_middle (a := B) (l₁ := [A0, A1, A2, A3, A4, A5, A6, A7, A8]) (l₂ := l))
theorem dn9 {A0 A1 A2 A3 A4 A5 A6 A7 A8 : Asrt} (H : Own W0 S0 (B :: A0 :: A1 :: A2 :: A3 :: A4 :: A5 :: A6 :: A7 :: A8 :: l) w) : Own W0 S0 (A0 :: A1 :: A2 :: A3 :: A4 :: A5 :: A6 :: A7 :: A8 :: B :: l) w := H.perm (by simpa using (List.perm_middle (a := B) (l₁ := [A0, A1, A2, A3, A4, A5, A6, A7, A8]) (l₂ := l)).symm)
theorem rid9 {A0 A1 A2 A3 A4 A5 A6 A7 A8 : Asrt} (H : Own W0 S0 (A0 :: A1 :: A2 :: A3 :: A4 :: A5 :: A6 :: A7 :: A8 :: B :: l) w) : Own W0 S0 (A0 :: A1 :: A2 :: A3 :: A4 :: A5 :: A6 :: A7 :: A8 :: l) w := H.up9.drop
theorem turn9 {A0 A1 A2 A3 A4 A5 A6 A7 A8 : Asrt} {C : Asrt} (H : Own W0 S0 (A0 :: A1 :: A2 :: A3 :: A4 :: A5 :: A6 :: A7 :: A8 :: B :: l) w) (h : ∀ S, B.on w S → C.on w S) : Own W0 S0 (A0 :: A1 :: A2 :: A3 :: A4 :: A5 :: A6 :: A7 :: A8 :: C :: l) w := (H.up9.turn h).dn9

/-- A step that is handed the two parts at the front. -/
theorem two (H : Own W0 S0 (A :: B :: l) w) : ∃ S, Sep [A, B] w S ∧ ∀ A' B' ls w', Own w S (A' :: B' :: ls) w' → Own W0 S0 (A' :: B' :: (l ++ ls)) w' := by
  have H1 : Own W0 S0 ([A, B] ++ l) w := H
  obtain ⟨S, h, hk⟩ := H1.split
  refine ⟨S, h, fun A' B' ls w' h => (hk _ _ h).perm ?_⟩
  exact (List.Perm.cons _ (List.Perm.cons _ List.perm_append_comm))
theorem three {C : Asrt} (H : Own W0 S0 (A :: B :: C :: l) w) : ∃ S, Sep [A, B, C] w S ∧ ∀ A' B' C' ls w', Own w S (A' :: B' :: C' :: ls) w' → Own W0 S0 (A' :: B' :: C' :: (l ++ ls)) w' := by
  have H1 : Own W0 S0 ([A, B, C] ++ l) w := H
  obtain ⟨S, h, hk⟩ := H1.split
  refine ⟨S, h, fun A' B' C' ls w' h => (hk _ _ h).perm ?_⟩
  exact (List.Perm.cons _ (List.Perm.cons _ (List.Perm.cons _ List.perm_append_comm)))
end Own

theorem i0 {B : Asrt} {l : List Asrt} : B ∈ B :: l := .head _
theorem i1 {A0 : Asrt} {B : Asrt} {l : List Asrt} : B ∈ A0 :: B :: l := .tail _ (.head _)
theorem i2 {A0 A1 : Asrt} {B : Asrt} {l : List Asrt} : B ∈ A0 :: A1 :: B :: l := .tail _ (.tail _ (.head _))
theorem i3 {A0 A1 A2 : Asrt} {B : Asrt} {l : List Asrt} : B ∈ A0 :: A1 :: A2 :: B :: l := .tail _ (.tail _ (.tail _ (.head _)))
theorem i4 {A0 A1 A2 A3 : Asrt} {B : Asrt} {l : List Asrt} : B ∈ A0 :: A1 :: A2 :: A3 :: B :: l := .tail _ (.tail _ (.tail _ (.tail _ (.head _))))
theorem i5 {A0 A1 A2 A3 A4 : Asrt} {B : Asrt} {l : List Asrt} : B ∈ A0 :: A1 :: A2 :: A3 :: A4 :: B :: l := .tail _ (.tail _ (.tail _ (.tail _ (.tail _ (.head _)))))
theorem i6 {A0 A1 A2 A3 A4 A5 : Asrt} {B : Asrt} {l : List Asrt} : B ∈ A0 :: A1 :: A2 :: A3 :: A4 :: A5 :: B :: l := .tail _ (.tail _ (.tail _ (.tail _ (.tail _ (.tail _ (.head _))))))
theorem i7 {A0 A1 A2 A3 A4 A5 A6 : Asrt} {B : Asrt} {l : List Asrt} : B ∈ A0 :: A1 :: A2 :: A3 :: A4 :: A5 :: A6 :: B :: l := .tail _ (.tail _ (.tail _ (.tail _ (.tail _ (.tail _ (.tail _ (.head _)))))))
theorem i8 {A0 A1 A2 A3 A4 A5 A6 A7 : Asrt} {B : Asrt} {l : List Asrt} : B ∈ A0 :: A1 :: A2 :: A3 :: A4 :: A5 :: A6 :: A7 :: B :: l := .tail _ (.tail _ (.tail _ (.tail _ (.tail _ (.tail _ (.tail _ (.tail _ (.head _))))))))
theorem i9 {A0 A1 A2 A3 A4 A5 A6 A7 A8 : Asrt} {B : Asrt} {l : List Asrt} : B ∈ A0 :: A1 :: A2 :: A3 :: A4 :: A5 :: A6 :: A7 :: A8 :: B :: l := .tail _ (.tail _ (.tail _ (.tail _ (.tail _ (.tail _ (.tail _ (.tail _ (.tail _ (.head _)))))))))

/-! ### Kinds of parts -/
namespace Asrt
/-- One block. -/
def at_ (b : Nat) (o : Obj) : Asrt where
  on w S := (∀ g, S g ↔ g = b) ∧ w.heap[b]? = some o
  loc h he _ := ⟨h.1, (he b ((h.1 b).2 rfl)).trans h.2⟩
  lt h hg := by rw [(h.1 _).1 hg]; exact lt_of_at h.2
def emp : Asrt where
  on _ S := ∀ g, ¬ S g
  loc h _ _ := h
  lt h hg := absurd hg (h _)
def ex {α : Type} (F : α → Asrt) : Asrt where
  on w S := ∃ x, (F x).on w S
  loc h he hz := h.elim fun x h => ⟨x, (F x).loc h he hz⟩
  lt h hg := h.elim fun x h => (F x).lt h hg
def pure (p : Prop) (A : Asrt) : Asrt where
  on w S := p ∧ A.on w S
  loc h he hz := ⟨h.1, A.loc h.2 he hz⟩
  lt h hg := A.lt h.2 hg
def sep (l : List Asrt) : Asrt where
  on w S := Sep l w S
  loc h he hz := h.loc he hz
  lt h hg := h.lt hg
/-- A row of a slice. -/
def sl (e : TypeId) (sz : Nat) (a : Option Addr) (n c : Nat) (xs : List Value) : Asrt where
  on w S := (∀ g, S g ↔ Blk a g) ∧ Sl w e sz a n c xs
  loc h he _ := ⟨h.1, h.2.same fun g hg => he g ((h.1 g).2 hg)⟩
  lt h hg := h.2.lt ((h.1 _).1 hg)
/-- Memory that nobody writes: as M has it. -/
def ro (M : World) (F : Foot) : Asrt where
  on w S := (∀ g, S g ↔ F g) ∧ (∀ g, F g → g < M.heap.size ∧ g < w.heap.size) ∧ ∀ g, F g → w.heap[g]? = M.heap[g]?
  loc h he hz := ⟨h.1, fun g hg => ⟨(h.2.1 g hg).1, Nat.lt_of_lt_of_le (h.2.1 g hg).2 hz⟩, fun g hg => (he g ((h.1 g).2 hg)).trans (h.2.2 g hg)⟩
  lt h hg := (h.2.1 _ ((h.1 _).1 hg)).2
end Asrt
abbrev At := Asrt.at_

namespace Own
variable {W0 w u : World} {S0 : Foot} {l l' l1 l2 : List Asrt} {A B : Asrt}

theorem opEx {α : Type} {F : α → Asrt} (H : Own W0 S0 (.ex F :: l) w) : ∃ x, Own W0 S0 (F x :: l) w := by
  obtain ⟨⟨S, ⟨S1, S2, ⟨x, h1⟩, h2, hd, hs⟩, hb⟩, k⟩ := H
  exact ⟨x, ⟨S, ⟨S1, S2, h1, h2, hd, hs⟩, hb⟩, k⟩
theorem opPure {p : Prop} (H : Own W0 S0 (.pure p A :: l) w) : p ∧ Own W0 S0 (A :: l) w := by
  obtain ⟨⟨S, ⟨S1, S2, ⟨hp, h1⟩, h2, hd, hs⟩, hb⟩, k⟩ := H
  exact ⟨hp, ⟨S, ⟨S1, S2, h1, h2, hd, hs⟩, hb⟩, k⟩
theorem opSep (H : Own W0 S0 (.sep l1 :: l) w) : Own W0 S0 (l1 ++ l) w := by
  obtain ⟨⟨S, ⟨S1, S2, h1, h2, hd, hs⟩, hb⟩, k⟩ := H
  exact ⟨⟨S, (Sep.append (l := l1) h1 h2 hd).congr hs, hb⟩, k⟩
theorem mkEx {α : Type} {F : α → Asrt} (x : α) (H : Own W0 S0 (F x :: l) w) : Own W0 S0 (.ex F :: l) w := H.turn fun _ h => ⟨x, h⟩
theorem mkPure {p : Prop} (hp : p) (H : Own W0 S0 (A :: l) w) : Own W0 S0 (.pure p A :: l) w := H.turn fun _ h => ⟨hp, h⟩
theorem mkSep (H : Own W0 S0 (l1 ++ l) w) : Own W0 S0 (.sep l1 :: l) w := by
  obtain ⟨⟨S, h, hb⟩, k⟩ := H
  obtain ⟨S1, S2, h1, h2, hd, hs⟩ := h.split
  exact ⟨⟨S, ⟨S1, S2, h1, h2, hd, hs⟩, hb⟩, k⟩

theorem new {o : Obj} (n : New w o u) : Own w NoB [At w.heap.size o] u :=
  ⟨⟨fun g => g = w.heap.size, ⟨_, fun _ => False, ⟨fun _ => Iff.rfl, n.at_⟩, fun _ h => h, fun _ _ h => h, fun g => by simp⟩, fun g hg => .inr (by omega)⟩, n.keep⟩
/-- ALLOC, IN A CONDITION. -/
theorem al {o : Obj} {K : World → Prop} (H : Own W0 S0 l w) (hk : ∀ u, Own W0 S0 (l ++ [At w.heap.size o]) u → K u) : letW (w.alloc o) K := alloc_step fun u n => hk u (H.add (new n))
theorem push {o : Obj} (H : Own W0 S0 l w) : Own W0 S0 (l ++ [At w.heap.size o]) (w.alloc o) := H.add (new (New.mk' w o))
theorem push2 {o o' : Obj} (H : Own W0 S0 l w) : Own W0 S0 (l ++ [At w.heap.size o, At (w.heap.size + 1) o']) ((w.alloc o).alloc o') := by
  have h := H.push (o := o).push (o := o')
  rw [(New.mk' w o).size] at h
  simpa using h
end Own

/-- A block's own place in a list. -/
class HasAt (b : Nat) (l : List Asrt) (o : outParam Obj) : Prop where
  mem : At b o ∈ l
instance (priority := high) HasAt.here {b : Nat} {o : Obj} {l : List Asrt} : HasAt b (At b o :: l) o := ⟨.head _⟩
instance HasAt.there {b : Nat} {o : Obj} {A : Asrt} {l : List Asrt} [h : HasAt b l o] : HasAt b (A :: l) o := ⟨.tail _ h.mem⟩

/-- One block's content is another: what the list is then. -/
class SetAt (b : Nat) (o : Obj) (l : List Asrt) (l' : outParam (List Asrt)) : Prop where
  pf : ∀ {w u : World} {S : Foot}, Sep l w S → S b ∧ (Set1 w b o u → Sep l' u S)
instance (priority := high) SetAt.here {b : Nat} {o o0 : Obj} {l : List Asrt} : SetAt b o (At b o0 :: l) (At b o :: l) := ⟨by
  rintro w u S ⟨S1, S2, h1, h2, hd, hs⟩
  have hb : S1 b := (h1.1 b).2 rfl
  exact ⟨(hs b).2 (.inl hb), fun k => ⟨S1, S2, ⟨h1.1, k.at_⟩, h2.loc (fun g hg => k.keep.block g (h2.lt hg) fun e => hd b hb (by rw [← (show g = b from e)]; exact hg)) k.keep.size, hd, hs⟩⟩⟩
instance SetAt.there {b : Nat} {o : Obj} {A : Asrt} {l l' : List Asrt} [h : SetAt b o l l'] : SetAt b o (A :: l) (A :: l') := ⟨by
  rintro w u S ⟨S1, S2, h1, h2, hd, hs⟩
  obtain ⟨hb, hk⟩ := h.pf (u := u) h2
  exact ⟨(hs b).2 (.inr hb), fun k => ⟨S1, S2, A.loc h1 (fun g hg => k.keep.block g (A.lt h1 hg) fun e => hd g hg (by rw [show g = b from e]; exact hb)) k.keep.size, hk k, hd, hs⟩⟩⟩

/-- A cell's content is another. -/
class SetL (cs : List Value) (i : Nat) (v : Value) (cs' : outParam (List Value)) : Prop where
  eq : cs.set i v = cs'
  lt : i < cs.length
instance SetL.z {a v : Value} {cs : List Value} : SetL (a :: cs) 0 v (v :: cs) := ⟨rfl, by simp⟩
instance SetL.s {a v : Value} {cs cs' : List Value} {i : Nat} [h : SetL cs i v cs'] : SetL (a :: cs) (i + 1) v (a :: cs') := ⟨by simp [h.eq], by have := h.lt; simp; omega⟩

namespace Own
variable {W0 w u : World} {S0 : Foot} {l l' l1 l2 : List Asrt} {A B : Asrt} {b i : Nat} {o : Obj} {cs cs' : List Value} {ty : TypeId} {v : Value}

theorem ob [h : HasAt b l o] (H : Own W0 S0 l w) : w.heap[b]? = some o := by
  obtain ⟨S, h⟩ := H.has h.mem
  exact h.2
theorem rd [HasAt b l (.cells ⟨cs⟩ ty)] (H : Own W0 S0 l w) (hv : cs[i]? = some v) : w.cell? ((⟨b, 0, none⟩ : Addr).add i) = some v := cell_at H.ob (by simpa using hv)
theorem rd0 [HasAt b l (.cells ⟨cs⟩ ty)] (H : Own W0 S0 l w) (hv : cs[0]? = some v) : w.cell? (⟨b, 0, none⟩ : Addr) = some v := cell_at0 H.ob (by simpa using hv)
theorem put [h : SetAt b o l l'] (H : Own W0 S0 l w) (k : Set1 w b o u) : Own W0 S0 l' u := by
  obtain ⟨⟨S, hs, hb⟩, k0⟩ := H
  obtain ⟨h1, h2⟩ := h.pf (u := u) hs
  exact ⟨⟨S, h2 k, hb⟩, k0.trans k.keep fun g hg e => (hb g (by rw [show g = b from e]; exact h1)).resolve_right (by omega)⟩
theorem st {K : World → Prop} [HasAt b l (.cells ⟨cs⟩ ty)] [h2 : SetL cs i v cs'] [SetAt b (.cells ⟨cs'⟩ ty) l l'] (H : Own W0 S0 l w) (hk : ∀ u, Own W0 S0 l' u → K u) :
    (∃ old, w.cell? ((⟨b, 0, none⟩ : Addr).add i) = some old) ∧ w.frozen? ((⟨b, 0, none⟩ : Addr).add i) = false ∧ letW (w.setCell ((⟨b, 0, none⟩ : Addr).add i) v) K := by
  refine store_step H.ob (by have := h2.lt; simpa using this) fun u s => ?_
  rw [show (⟨cs⟩ : Array Value).setIfInBounds (0 + i) v = ⟨cs'⟩ by apply Array.toList_inj.1; simp [h2.eq]] at s
  exact hk u (H.put s)
theorem st1 {K : World → Prop} [HasAt b l (.cells ⟨cs⟩ ty)] [h2 : SetL cs i v cs'] [SetAt b (.cells ⟨cs'⟩ ty) l l'] (H : Own W0 S0 l w) (hk : ∀ u, Own W0 S0 l' u → K u) :
    (∃ old, w.cell? (((⟨b, 0, none⟩ : Addr).add i).add 0) = some old) ∧ w.frozen? (((⟨b, 0, none⟩ : Addr).add i).add 0) = false ∧ letW (w.setCell (((⟨b, 0, none⟩ : Addr).add i).add 0) v) K := by
  have e : ((⟨b, 0, none⟩ : Addr).add i).add 0 = (⟨b, 0, none⟩ : Addr).add i := by simp [add_mk]
  rw [e]
  exact H.st hk
theorem po {K : World → Prop} {o0 : Obj} [HasAt b l o0] [SetAt b o l l'] (H : Own W0 S0 l w) (hk : ∀ u, Own W0 S0 l' u → K u) : letW (w.putObj b o) K := put_step (o := o) H.ob fun u (s : Set1 w b o u) => hk u (H.put s)
theorem po' {o0 : Obj} [HasAt b l o0] [SetAt b o l l'] (H : Own W0 S0 l w) : Own W0 S0 l' (w.putObj b o) := H.put (Set1.mk' H.ob)
end Own

end Go.Proofs.YtgepmlgkeljelaaGreat.Vc
