/- Package hash, and the functions of package slices at []uint32 that it uses. -/
import Derived.Test.YtgepmlgkeljelaaGreatTall
import Derived.Test.YtgepmlgkeljelaaGreatVcR
namespace Go.Proofs.YtgepmlgkeljelaaGreat.Vc
open Go Go.Proofs

/-! ### []uint32 -/
abbrev encU (n : Int) : Value := .int .u32 n
def U32 (w : World) (a : Option Addr) (c : Nat) (l : List Int) : Prop := Sl w T.«u32» 1 a l.length c (l.map encU)
theorem u32Ok : ElemOk P T.«l_u32» T.«u32» 1 4 := ⟨Tryz.underlying51, infoOk (z := .int .u32 0) (by kernel_rfl) rfl, by decide⟩
theorem encU_one (l : List Int) : ∀ u ∈ l.map encU, u.oneCell' = true := by
  intro u hu
  obtain ⟨n, _, rfl⟩ := List.mem_map.1 hu
  rfl

theorem U32.cell {w : World} {a : Option Addr} {c : Nat} {l : List Int} (h : U32 w a c l) {i : Nat} {x : Int} (hi : l[i]? = some x) : ∃ g, a = some ⟨g, 0, none⟩ ∧ w.cell? ((⟨g, 0, none⟩ : Addr).add (i * 1)) = some (.int .u32 x) := by
  have hlt : i < l.length := (List.getElem?_eq_some_iff.1 hi).1
  obtain ⟨g, rfl⟩ := Sl.some h (by omega)
  refine ⟨g, rfl, ?_⟩
  rw [add_mk, Nat.zero_add, Nat.mul_one]
  exact (Sl.cell h (j := i) (by rw [List.getElem?_map, hi]; rfl)).2
theorem U32.len_le {w : World} {a : Option Addr} {c : Nat} {l : List Int} (h : U32 w a c l) : (l.length : Int) ≤ 9223372036854775807 := by
  have := Nat.le_trans (Sl.le h) (Sl.cap_le h)
  simp only [maxLen] at this; omega

/-- Where a number stands. -/
def idxI (l : List Int) (v : Int) : Int := match l.findIdx? (fun x => v == x) with | some i => i | none => -1
theorem findIdx_stepI (p : Int → Bool) : ∀ (L : List Int) (i : Nat) (x : Int), L[i]? = some x → (∀ c ∈ L.take i, p c = false) → p x = true → L.findIdx? p = some i
  | [], i, x, h, _, _ => by cases h
  | d :: L, 0, x, h, _, hp => by cases h; simp [List.findIdx?_cons, hp]
  | d :: L, i + 1, x, h, hn, hp => by
    have hd : p d = false := hn d (by simp)
    rw [List.findIdx?_cons, hd]
    simp only [Bool.false_eq_true, if_false]
    rw [findIdx_stepI p L i x (by simpa using h) (fun c hc => hn c (by simp [hc])) hp]
    rfl

section
variable {w : World} {a : Option Addr} {c : Nat} {l : List Int}

theorem c_Index (h : U32 w a c l) (v : Int) : Calls P F.«slices_Index_sl_uint32_uint32» ⟨[.slice a l.length c, .int .u32 v]⟩ w fun e w' => e = .returned (.int .i64 (idxI l v)) ∧ w = w' := by
  refine ok_slices_Index_sl_uint32_uint32 ⟨fun t w' => w = w' ∧ ∃ i : Nat, t.1 = i ∧ i ≤ l.length ∧ ∀ x ∈ l.take i, (v == x) = false, fun t _ => l.length - t.1.toNat, ⟨rfl, 0, rfl, by omega, by simp⟩, ?_⟩
  rintro _ _ _ ⟨rfl, i, rfl, hi, hn⟩
  have hll := h.len_le
  refine bcase_mk (fun hb => ?_) (fun hb => ?_)
  · have hlt : i < l.length := by have := of_decide_eq_true hb; omega
    have hx : l[i]? = some l[i] := List.getElem?_eq_getElem hlt
    obtain ⟨g, rfl, hc⟩ := h.cell hx
    refine ⟨⟨by omega, by omega⟩, _, hc, bcase_mk (fun he => ?_) (fun he => ?_)⟩
    · refine ⟨?_, rfl⟩
      rw [idxI, findIdx_stepI _ l i _ hx hn he]
    · rw [wrap64 (by omega) (by omega)]
      refine ⟨⟨rfl, i + 1, by simp, by omega, fun x hx' => ?_⟩, by show l.length - ((i : Int) + 1).toNat < l.length - (i : Int).toNat; omega⟩
      rw [List.take_add_one, hx] at hx'
      simp only [Option.toList_some, List.mem_append, List.mem_singleton] at hx'
      rcases hx' with hx' | rfl
      · exact hn x hx'
      · exact he
  · have hge : i = l.length := by have := of_decide_eq_false hb; omega
    subst hge
    refine ⟨?_, rfl⟩
    rw [idxI, List.findIdx?_eq_none_iff.2 (by simpa using hn)]

theorem c_Contains (h : U32 w a c l) (v : Int) : Calls P F.«slices_Contains_sl_uint32_uint32» ⟨[.slice a l.length c, .int .u32 v]⟩ w fun e w' => e = .returned (.bool (decide (idxI l v ≥ 0))) ∧ w = w' := by
  refine ok_slices_Contains_sl_uint32_uint32 ((c_Index h v).mono ?_)
  rintro _ _ ⟨rfl, rfl⟩
  exact ⟨_, rfl, rfl, rfl⟩

theorem idxI_some {v : Int} (h : ¬ idxI l v < 0) : ∃ i : Nat, idxI l v = i ∧ l[i]? = some v := by
  unfold idxI at h ⊢
  split at h
  · rename_i i hi
    obtain ⟨h1, h2, _⟩ := List.findIdx?_eq_some_iff_getElem.1 hi
    refine ⟨i, rfl, ?_⟩
    rw [List.getElem?_eq_getElem h1]
    have : v = l[i] := by simpa using h2
    rw [← this]
  · omega
theorem idxI_neg {v : Int} (h : idxI l v < 0) : v ∉ l := by
  unfold idxI at h
  split at h
  · omega
  · rename_i hi
    intro hv
    have := List.findIdx?_eq_none_iff.1 hi v hv
    simp at this

theorem c_Clone (h : U32 w a c l) (hlen : l.length ≤ 100000) : Calls P F.«slices_Clone_sl_uint32_uint32» ⟨[.slice a l.length c]⟩ w fun e w' => ∃ a' c', e = .returned (.slice a' l.length c') ∧ U32 w' a' c' l ∧ Keep NoB w w' ∧ ∀ g, Blk a' g → w.heap.size ≤ g := by
  refine ok_slices_Clone_sl_uint32_uint32 ?_
  unfold V_slices_Clone_sl_uint32_uint32
  refine bcase_mk (fun hb => ?_) (fun hb => ?_)
  · rcases Sl.cases' h with ⟨rfl, h1, h2, h3⟩ | ⟨g, cur, rfl, _⟩
    · have : l = [] := List.eq_nil_of_length_eq_zero h1
      subst this
      exact ⟨none, 0, rfl, Sl.nil _ _ _, Keep.refl _ _, fun g hg => absurd hg Blk.none⟩
    · cases hb
  · obtain ⟨w1, r1, n1⟩ := buildSlice_zero (P := P) (w := w) u32Ok
    have s1 : Sl w1 T.«u32» 1 (some ⟨w.heap.size, 0, none⟩) 0 0 [] := Sl.mk' (n := 0) (c := 0) n1.at_ (Nat.le_refl _) (Nat.zero_le _) rfl
    have h1 : Sl w1 T.«u32» 1 a l.length c (l.map encU) := Sl.keep h n1.keep fun _ _ h => h
    obtain ⟨a2, c2, w2, r2, s2, k2, b2⟩ := append_own (ty := T.«l_u32») u32Ok s1 h1.srcAll (encU_one l) (by omega)
    simp only [Nat.zero_add, List.nil_append] at r2 s2
    refine ⟨_, _, _, _, r1, _, _, _, _, r2, a2, c2, rfl, s2, n1.keep.trans k2 fun g hg hb => by have := hb.eq; omega, fun g hg => ?_⟩
    rcases b2 g hg with hb | hb
    · have := hb.eq; omega
    · rw [n1.size] at hb; omega

theorem c_Delete (h : U32 w a c l) {i : Nat} (hi : i < l.length) : Calls P F.«slices_Delete_sl_uint32_uint32» ⟨[.slice a l.length c, .int .i64 i, .int .i64 ((i + 1 : Nat) : Int)]⟩ w fun e w' => e = .returned (.slice a (l.eraseIdx i).length c) ∧ U32 w' a c (l.eraseIdx i) ∧ Keep (Blk a) w w' ∧ w'.heap.size = w.heap.size := by
  have hc := Sl.le h
  refine ok_slices_Delete_sl_uint32_uint32 ⟨⟨by omega, by omega, by omega, by omega⟩, bcase_mk (fun hb => ?_) (fun hb => ⟨⟨by omega, by omega, by omega, by omega⟩, ⟨by omega, by omega, by omega, by omega⟩, fun w1 hd => ?_⟩)⟩
  · have : (i : Int) = ((i + 1 : Nat) : Int) := by simpa using hb
    omega
  · have h1 : U32 w1 a c l := Sl.keep h (Keep.drew NoB hd) fun _ _ h => h
    have hh := Sl.head h1 (m := i) (by omega)
    obtain ⟨w2, r2, s2, k2, z2⟩ := append_fits (ty := T.«l_u32») u32Ok hh (Sl.src h1 (lo := i + 1) (hi := l.length) (by omega) (Nat.le_refl _)) (fun v hv => encU_one _ v (List.mem_of_mem_drop (List.mem_of_mem_take hv))) (by omega)
    have hxs : (l.map encU).take (i * 1) ++ ((l.map encU).drop ((i + 1) * 1)).take ((l.length - (i + 1)) * 1) = (l.eraseIdx i).map encU := by
      rw [List.eraseIdx_eq_take_drop_succ, List.map_append, List.map_take, List.map_drop, Nat.mul_one, Nat.mul_one, Nat.mul_one, List.take_of_length_le (l := (l.map encU).drop (i + 1)) (i := l.length - (i + 1)) (by simp)]
    have hn : i + (l.length - (i + 1)) = (l.eraseIdx i).length := by rw [List.length_eraseIdx, if_pos hi]; omega
    rw [hxs, hn] at s2
    rw [hn] at r2
    have hl : (l.eraseIdx i).length + 1 = l.length := by rw [List.length_eraseIdx, if_pos hi]; omega
    obtain ⟨w3, r3, s3, k3, z3⟩ := clear_one (P := P) (ty := T.«tup_») (cx := c - (l.eraseIdx i).length) Tryz.underlying51 Tryz.zeroValue48 rfl rfl s2 (by omega)
    have e0 : (if (c : Int).toNat = (0 : Int).toNat then a else a.map (·.add ((0 : Int).toNat * 1))) = a := by
      split
      · rfl
      · exact Sl.from0 h _ rfl
    refine ⟨a, (l.eraseIdx i).length, c, w2, ?_, ⟨by omega, by omega, by omega, by omega⟩, w3, ?_, rfl, s3, ((Keep.drew _ hd).trans k2 fun _ _ h => h).trans k3 fun _ _ h => h, by rw [z3, z2, hd.size]⟩
    · rw [e0]; exact r2
    · have e1 : (c : Int).toNat ≠ ((l.eraseIdx i).length : Int).toNat := by omega
      rw [if_neg e1]
      have e2 : (l.length : Int).toNat - ((l.eraseIdx i).length : Int).toNat = 1 := by omega
      rw [e2]
      have e3 : ((l.eraseIdx i).length : Int).toNat * 1 = (l.eraseIdx i).length := by omega
      rw [e3]
      exact r3
end

/-! ### Bucket -/
def btN (s : ByteArray) (i : Nat) : Nat := (s.data.toList.getD i 0).toNat
def bsum (s : ByteArray) : Nat → Nat
  | 0 => s.size
  | i + 1 => bsum s i + btN s i * (i % 7 * 2 + 1)
def bucketN (s : ByteArray) : Nat := bsum s s.size % 16
theorem bucketN_lt (s : ByteArray) : bucketN s < 16 := Nat.mod_lt _ (by decide)
theorem btN_lt (s : ByteArray) (i : Nat) : btN s i < 256 := UInt8.toNat_lt _
theorem bstep_le (s : ByteArray) (i : Nat) : btN s i * (i % 7 * 2 + 1) ≤ 3315 := by
  have h1 := btN_lt s i
  have h2 := Nat.mod_lt i (show 0 < 7 by decide)
  exact Nat.mul_le_mul (show btN s i ≤ 255 by omega) (show i % 7 * 2 + 1 ≤ 13 by omega)
theorem bsum_le (s : ByteArray) : ∀ i, bsum s i ≤ s.size + i * 3315
  | 0 => by simp [bsum]
  | i + 1 => by have := bsum_le s i; have := bstep_le s i; simp only [bsum]; omega

theorem c_Bucket (w : World) (s : ByteArray) (hs : s.size ≤ 4294967296) : Calls P F.«hash_Bucket» ⟨[.string s]⟩ w fun e w' => e = .returned (.int .u8 (bucketN s : Nat)) ∧ w = w' := by
  refine ok_hash_Bucket ⟨fun t w' => w = w' ∧ ∃ i : Nat, t.2.1 = i ∧ i ≤ s.size ∧ t.1 = (bsum s i : Nat), fun t _ => s.size - t.2.1.toNat, ⟨rfl, 0, rfl, by omega, rfl⟩, ?_⟩
  rintro _ _ _ _ ⟨rfl, i, rfl, hi, rfl⟩
  refine bcase_mk (fun hb => ?_) (fun hb => ?_)
  · have hlt : i < s.size := by have := of_decide_eq_true hb; omega
    have hm := Nat.mod_lt i (show 0 < 7 by decide)
    have hbl := btN_lt s i
    have hst := bstep_le s i
    have hsu := bsum_le s i
    refine ⟨⟨by omega, by omega⟩, by decide, ?_⟩
    rw [show bt s i = ((btN s i : Nat) : Int) from rfl, show Int.tmod (i : Int) 7 = ((i % 7 : Nat) : Int) from rfl]
    rw [wrap64 (n := ((btN s i : Nat) : Int)) (by omega) (by omega), wrap64 (n := ((i % 7 : Nat) : Int) * 2) (by omega) (by omega), wrap64 (n := ((i % 7 : Nat) : Int) * 2 + 1) (by omega) (by omega)]
    have e : ((btN s i : Nat) : Int) * (((i % 7 : Nat) : Int) * 2 + 1) = ((btN s i * (i % 7 * 2 + 1) : Nat) : Int) := by push_cast; rfl
    rw [e, wrap64 (n := ((btN s i * (i % 7 * 2 + 1) : Nat) : Int)) (by omega) (by omega), wrap64 (n := (bsum s i : Int) + _) (by omega) (by omega), wrap64 (n := (i : Int) + 1) (by omega) (by omega)]
    refine ⟨⟨rfl, i + 1, by simp, by omega, ?_⟩, by show s.size - ((i : Int) + 1).toNat < s.size - (i : Int).toNat; omega⟩
    show ((bsum s i : Nat) : Int) + ((btN s i * (i % 7 * 2 + 1) : Nat) : Int) = ((bsum s i + btN s i * (i % 7 * 2 + 1) : Nat) : Int)
    push_cast; rfl
  · have hge : i = s.size := by have := of_decide_eq_false hb; omega
    subst hge
    have hlt := bucketN_lt s
    refine ⟨by decide, ?_, rfl⟩
    rw [show Int.tmod ((bsum s s.size : Nat) : Int) 16 = ((bucketN s : Nat) : Int) from rfl, wrapU8 (by omega) (by omega)]

theorem q_Bucket (w : World) (s : ByteArray) (hs : s.size ≤ 4294967296) : qcall P F.«hash_Bucket» ⟨[.string s]⟩ w (.int .u8 (bucketN s : Nat)) := fun n => (c_Bucket (w.drewN n) s hs).mono fun e w' h => ⟨h.1, n, h.2.symm⟩

end Go.Proofs.YtgepmlgkeljelaaGreat.Vc
