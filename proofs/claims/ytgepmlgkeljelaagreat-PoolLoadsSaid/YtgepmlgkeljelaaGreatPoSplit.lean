/- value.Split: pieces of 64 bytes. -/
import Derived.Test.YtgepmlgkeljelaaGreatVcE
import Derived.Test.YtgepmlgkeljelaaGreatTall
namespace Go.Proofs.YtgepmlgkeljelaaGreat.Vc
open Go Go.Proofs

def pcsF : Nat → ByteArray → List ByteArray
  | 0, _ => []
  | n + 1, d => if d.size = 0 then [] else if d.size ≤ 64 then [d] else d.extract 0 64 :: pcsF n (d.extract 64 d.size)
/-- The pieces of a text. -/
def pcs (d : ByteArray) : List ByteArray := pcsF d.size d
theorem pcsF_eq : ∀ (n m : Nat) (d : ByteArray), d.size ≤ n → d.size ≤ m → pcsF n d = pcsF m d
  | 0, 0, _, _, _ => rfl
  | 0, m + 1, d, h, _ => by show [] = if d.size = 0 then [] else _; rw [if_pos (by omega)]
  | n + 1, 0, d, _, h => by show (if d.size = 0 then [] else _) = []; rw [if_pos (by omega)]
  | n + 1, m + 1, d, h1, h2 => by
    show (if d.size = 0 then [] else _) = if d.size = 0 then [] else _
    split
    · rfl
    · split
      · rfl
      · have : (d.extract 64 d.size).size = d.size - 64 := by simp [ByteArray.size_extract]
        rw [pcsF_eq n m _ (by omega) (by omega)]
theorem pcs_zero {d : ByteArray} (h : d.size = 0) : pcs d = [] := by unfold pcs; rw [h]; rfl
theorem pcs_one {d : ByteArray} (h : d.size ≠ 0) (h2 : d.size ≤ 64) : pcs d = [d] := by
  unfold pcs
  obtain ⟨n, hn⟩ : ∃ n, d.size = n + 1 := ⟨d.size - 1, by omega⟩
  rw [hn]; show (if d.size = 0 then [] else _) = _
  rw [if_neg h, if_pos h2]
theorem pcs_more {d : ByteArray} (h : ¬ d.size ≤ 64) : pcs d = d.extract 0 64 :: pcs (d.extract 64 d.size) := by
  have hz : (d.extract 64 d.size).size = d.size - 64 := by simp [ByteArray.size_extract]
  unfold pcs
  obtain ⟨n, hn⟩ : ∃ n, d.size = n + 1 := ⟨d.size - 1, by omega⟩
  have e : pcsF d.size d = pcsF (n + 1) d := by rw [hn]
  rw [e]
  show (if d.size = 0 then [] else _) = _
  rw [if_neg (by omega), if_neg h, pcsF_eq n _ _ (by omega) (Nat.le_refl _)]
theorem pcs_len : ∀ (n : Nat) (d : ByteArray), d.size ≤ n → (pcs d).length ≤ n ∧ (∀ p ∈ pcs d, 1 ≤ p.size ∧ p.size ≤ 64) ∧ (pcs d).length = (d.size + 63) / 64
  | n, d, h => by
    by_cases h0 : d.size = 0
    · rw [pcs_zero h0]; exact ⟨Nat.zero_le _, fun p hp => by simp at hp, by simp [h0]⟩
    · by_cases h1 : d.size ≤ 64
      · rw [pcs_one h0 h1]; exact ⟨by simp; omega, fun p hp => by rw [List.mem_singleton.1 hp]; omega, by simp; omega⟩
      · have hz : (d.extract 64 d.size).size = d.size - 64 := by simp [ByteArray.size_extract]
        have hz0 : (d.extract 0 64).size = 64 := by simp [ByteArray.size_extract]; omega
        obtain ⟨h2, h3, h4⟩ := pcs_len (n - 1) (d.extract 64 d.size) (by omega)
        rw [pcs_more h1]
        refine ⟨by simp; omega, fun p hp => ?_, by simp only [List.length_cons, h4, hz]; omega⟩
        rcases List.mem_cons.1 hp with rfl | hp
        · omega
        · exact h3 p hp
  termination_by n d h => d.size
  decreasing_by omega

abbrev strv (d : ByteArray) : Value := .string d
theorem strOk : ElemOk P T.«l_string» T.«string» 1 16 := ⟨Tryz.underlying41, infoOk (z := .string (bs [])) (by kernel_rfl) rfl, by decide⟩

theorem v_Split (w : World) (d : ByteArray) (hd : d.size ≤ 1000000) : Calls P F.«value_Split» ⟨[.string d]⟩ w fun e w' => ∃ a c, e = .returned (.slice a (pcs d).length c) ∧ Own w NoB [.sl T.«string» 1 a (pcs d).length c ((pcs d).map strv)] w' := by
  refine ok_value_Split ?_
  unfold V_value_Split
  refine ⟨fun p u => ∃ (s : ByteArray) (done : List ByteArray) (a : Option Addr) (c : Nat), p = (s, (a, done.length, c), ()) ∧ pcs d = done ++ pcs s ∧ done.length + s.size ≤ d.size ∧ Own w NoB [.sl T.«string» 1 a done.length c (done.map strv)] u, fun p _ => p.1.size, ⟨d, [], none, 0, rfl, rfl, by simp, (Own.nil w).nilRow _ _⟩, ?_⟩
  rintro _ s a n c u ⟨s', done, a', c', he, hp, hl, H⟩
  simp only [Prod.mk.injEq, and_true] at he
  obtain ⟨rfl, rfl, rfl, rfl⟩ := he
  generalize hb0 : (((s.size : Nat) : Int) == 0) = b0
  refine bcase_mk (fun h0 => ?_) fun h0 => ?_
  · have h0 : s.size = 0 := by have := eq_of_beq (hb0.trans h0); omega
    rw [pcs_zero h0, List.append_nil] at hp
    rw [hp]
    exact ⟨a, c, rfl, H⟩
  · have h0 : s.size ≠ 0 := by
      intro h; rw [h] at hb0; rw [← hb0] at h0; cases h0
    generalize hb1 : decide (((s.size : Nat) : Int) ≤ 64) = b1
    refine bcase_mk (fun h1 => ?_) fun h1 => ?_
    · have h1 : s.size ≤ 64 := by have := of_decide_eq_true (hb1.trans h1); omega
      rw [pcs_one h0 h1] at hp
      refine H.app1 (ty := T.«l_string») strOk (v := .string s) rfl (fun u hu => by rw [List.mem_singleton.1 hu]; rfl) (by omega) (by omega) fun a' c' u2 H => ⟨a', c', ?_, ?_⟩
      · rw [hp, List.length_append]; rfl
      · rw [hp, List.length_append, List.map_append]; exact H
    · have h1 : ¬ s.size ≤ 64 := by have := of_decide_eq_false (hb1.trans h1); omega
      rw [pcs_more h1] at hp
      refine ⟨⟨by omega, by omega, by omega⟩, ⟨by omega, by omega, by omega⟩, fun wd hd2 => ?_⟩
      have hz : (s.extract 64 s.size).size = s.size - 64 := by simp [ByteArray.size_extract]
      refine (H.drew hd2).app1 (ty := T.«l_string») strOk (v := .string (s.extract 0 64)) rfl (fun u hu => by rw [List.mem_singleton.1 hu]; rfl) (by omega) (by omega) fun a' c' u2 H => ⟨⟨s.extract 64 s.size, done ++ [s.extract 0 64], a', c', by simp, by rw [hp]; simp, by simp [hz]; omega, ?_⟩, ?_⟩
      · rw [List.length_append, List.map_append]; exact H
      · show (s.extract 64 s.size).size < s.size
        omega

end Go.Proofs.YtgepmlgkeljelaaGreat.Vc
