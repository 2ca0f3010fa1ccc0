/- The device (package device) of 256 blocks, as a part of memory. -/
import Derived.Test.YtgepmlgkeljelaaGreatVcE
import Derived.Test.YtgepmlgkeljelaaGreatTall
namespace Go.Proofs.YtgepmlgkeljelaaGreat.Vc
open Go Go.Proofs

structure Slot where
  firm : List UInt8
  read : List UInt8
  fresh : Bool
def Slot.ok (s : Slot) : Prop := s.firm.length = 64 ∧ s.read.length = 64
def slot0 : Slot := ⟨List.replicate 64 0, List.replicate 64 0, false⟩
def encS (s : Slot) : List Value := s.firm.map u8v ++ s.read.map u8v ++ [.bool s.fresh]
abbrev DevO (a : Option Addr) (c : Nat) : Obj := .cells ⟨[.slice a 256 c]⟩ T.«device_Device»
def DevOk (D : List Slot) : Prop := D.length = 256 ∧ ∀ s ∈ D, s.ok
/-- The device at b, its blocks D. -/
def Dev (b : Nat) (D : List Slot) : Asrt := .ex fun a : Option Addr => .ex fun c : Nat => .pure (DevOk D) (.sep [At b (DevO a c), .sl T.«device_slot» 129 a 256 c (D.flatMap encS)])

theorem encS_length {s : Slot} (h : s.ok) : (encS s).length = 129 := by simp [encS, h.1, h.2]
theorem flatS_length : ∀ {D : List Slot}, (∀ s ∈ D, s.ok) → (D.flatMap encS).length = D.length * 129
  | [], _ => rfl
  | s :: D, h => by
    rw [List.flatMap_cons, List.length_append, encS_length (h s (by simp)), flatS_length fun x hx => h x (by simp [hx]), List.length_cons]
    omega
theorem flatS_split {D : List Slot} {k : Nat} (hk : k < D.length) : D.flatMap encS = (D.take k).flatMap encS ++ encS D[k] ++ (D.drop (k + 1)).flatMap encS := by
  have h : D = D.take k ++ D[k] :: D.drop (k + 1) := by rw [← List.drop_eq_getElem_cons hk, List.take_append_drop]
  have h2 := congrArg (fun l => l.flatMap encS) h
  simp only [List.flatMap_append, List.flatMap_cons] at h2
  exact h2.trans (List.append_assoc _ _ _).symm
theorem flatS_set {D : List Slot} {k : Nat} (hk : k < D.length) (y : Slot) : (D.set k y).flatMap encS = (D.take k).flatMap encS ++ encS y ++ (D.drop (k + 1)).flatMap encS := by
  rw [List.set_eq_take_append_cons_drop, if_pos hk]
  simp [List.flatMap_append]
theorem DevOk.set {D : List Slot} (h : DevOk D) {k : Nat} {y : Slot} (hy : y.ok) : DevOk (D.set k y) :=
  ⟨by rw [List.length_set]; exact h.1, fun s hs => by
    rcases List.mem_or_eq_of_mem_set hs with h' | rfl
    · exact h.2 s h'
    · exact hy⟩
theorem DevOk.at_ {D : List Slot} (h : DevOk D) {k : Nat} (hk : k < D.length) : (D[k]).ok := h.2 _ (List.getElem_mem hk)
theorem DevOk.pre {D : List Slot} (h : DevOk D) {k : Nat} (hk : k < 256) : ((D.take k).flatMap encS).length = k * 129 := by
  rw [flatS_length fun s hs => h.2 s (List.mem_of_mem_take hs), List.length_take, h.1, Nat.min_eq_left (by omega)]

section
variable {w W0 : World} {S S0 : Foot} {b : Nat} {D : List Slot} {l : List Asrt}

theorem Dev.op (H : Own W0 S0 (Dev b D :: l) w) : DevOk D ∧ ∃ g c, Own W0 S0 (At b (DevO (some ⟨g, 0, none⟩) c) :: .sl T.«device_slot» 129 (some ⟨g, 0, none⟩) 256 c (D.flatMap encS) :: l) w := by
  obtain ⟨a, H⟩ := H.opEx
  obtain ⟨c, H⟩ := H.opEx
  obtain ⟨hm, H⟩ := H.opPure
  have H := H.opSep
  obtain ⟨_, hs⟩ := H.has i1
  obtain ⟨g, rfl⟩ := hs.2.some (by omega)
  exact ⟨hm, g, c, H⟩
theorem Dev.cl {a : Option Addr} {c : Nat} (hm : DevOk D) (H : Own W0 S0 (At b (DevO a c) :: .sl T.«device_slot» 129 a 256 c (D.flatMap encS) :: l) w) : Own W0 S0 (Dev b D :: l) w :=
  Own.mkEx a (Own.mkEx c (Own.mkPure hm (Own.mkSep H)))

theorem exs_bytes : ∀ {l : List UInt8} {n : Nat} {K : List Value → Prop}, l.length = n → K (l.map u8v) → CK.exs (List.replicate n (.int .u8)) K
  | [], 0, _, _, h => h
  | x :: l, n + 1, K, hl, h => by
    show ∃ m : Int, CK.exs (List.replicate n (.int .u8)) fun vs => K (.int .u8 m :: vs)
    exact ⟨_, exs_bytes (l := l) (by simpa using hl) h⟩

theorem d_Blocks {a : Option Addr} {c : Nat} (h : w.heap[b]? = some (DevO a c)) : Calls P F.«device_Device_Blocks» ⟨[.pointer (some ⟨b, 0, none⟩)]⟩ w fun e w' => e = .returned (.int .i64 256) ∧ w = w' := by
  refine ok_device_Device_Blocks ?_
  unfold V_device_Device_Blocks
  exact bcase_mk (fun h => by cases h) fun _ => ⟨_, _, _, cell_at h rfl, rfl, rfl⟩

theorem d_at {g c : Nat} (h : w.heap[b]? = some (DevO (some ⟨g, 0, none⟩) c)) (k : Int) : Calls P F.«device_Device_at» ⟨[.pointer (some ⟨b, 0, none⟩), .int .i64 k]⟩ w fun e w' =>
    ((0 ≤ k ∧ k < 256) ∧ e = .returned (.tuple ⟨[.pointer (some ⟨g, k.toNat * 129, none⟩), .int .i64 0]⟩) ∧ w = w') ∨ (¬ (0 ≤ k ∧ k < 256) ∧ e = .returned (.tuple ⟨[.pointer none, .int .i64 2]⟩) ∧ w = w') := by
  refine ok_device_Device_at ?_
  unfold V_device_Device_at
  refine ⟨fun p u => p.1 = false ∧ w = u, bcase_mk (fun h => by cases h) fun _ => ⟨_, _, _, cell_at h rfl, rfl, rfl⟩, ?_⟩
  rintro _ _ _ ⟨rfl, rfl⟩
  refine bcase_mk (fun h => by cases h) fun _ => bcase_mk (fun hk => .inr ⟨?_, rfl, rfl⟩) fun hk => ⟨_, _, _, cell_at h rfl, ?_⟩
  · have := of_decide_eq_true hk; omega
  generalize hbb : decide (k ≥ ((256 : Nat) : Int)) = bb
  refine bcase_mk (fun h2 => .inr ⟨?_, rfl, rfl⟩) fun h2 => ⟨_, _, _, cell_at h rfl, ?_, .inl ⟨?_, ?_, rfl⟩⟩
  · have := of_decide_eq_true (hbb.trans h2); omega
  · have := of_decide_eq_false hk; have := of_decide_eq_false (hbb.trans h2); exact ⟨by omega, by omega⟩
  · have := of_decide_eq_false hk; have := of_decide_eq_false (hbb.trans h2); exact ⟨by omega, by omega⟩
  · rw [add_mk, Nat.zero_add]

def wrS (x : Slot) (s : ByteArray) : Slot := { x with read := s.data.toList ++ List.replicate (64 - s.size) 0, fresh := true }
def wrD (D : List Slot) (k : Int) (s : ByteArray) : Int × List Slot :=
  if 0 ≤ k ∧ k < 256 then (if s.size > 64 then (3, D) else (0, D.set k.toNat (wrS (D.getD k.toNat slot0) s))) else (2, D)
def rdD (D : List Slot) (k : Int) : ByteArray × Int := if 0 ≤ k ∧ k < 256 then (⟨((D.getD k.toNat slot0).read).toArray⟩, 0) else (bs [], 2)

theorem d_Write (h : (Dev b D).on w S) (k : Int) (s : ByteArray) : Calls P F.«device_Device_Write» ⟨[.pointer (some ⟨b, 0, none⟩), .int .i64 k, .string s]⟩ w fun e w' => e = .returned (.int .i64 (wrD D k s).1) ∧ Own w S [Dev b (wrD D k s).2] w' := by
  refine ok_device_Device_Write ?_
  unfold V_device_Device_Write
  obtain ⟨hD, g, c, H⟩ := Dev.op (Own.of1 h)
  refine (d_at H.ob k).mono ?_
  rintro _ _ (⟨hk, rfl, rfl⟩ | ⟨hk, rfl, rfl⟩)
  · refine ⟨_, _, rfl, bcase_mk (fun h => by cases h) fun _ => ?_⟩
    unfold wrD
    rw [if_pos hk]
    generalize hbb : decide ((s.size : Int) > 64) = bb
    refine bcase_mk (fun h2 => ?_) fun h2 => ?_
    · rw [if_pos (by have := of_decide_eq_true (hbb.trans h2); omega)]
      exact ⟨rfl, Dev.cl hD H⟩
    · have hs : s.size ≤ 64 := by have := of_decide_eq_false (hbb.trans h2); omega
      rw [if_neg (by omega)]
      have hlt : k.toNat < D.length := by rw [hD.1]; omega
      have hx := hD.at_ hlt
      have hp := hD.pre (k := k.toNat) (by omega)
      have H := H.up1
      rw [flatS_split hlt] at H
      generalize hA : (D.take k.toNat).flatMap encS = A at H hp
      generalize hC : (D.drop (k.toNat + 1)).flatMap encS = C at H
      have hg : D.getD k.toNat slot0 = D[k.toNat] := by simp [List.getD, List.getElem?_eq_getElem hlt]
      rw [hg]
      have hset := flatS_set (D := D) hlt (wrS D[k.toNat] s)
      rw [hA, hC] at hset
      have hok : (wrS D[k.toNat] s).ok := ⟨hx.1, by simp [wrS]; show s.size + (64 - s.size) = 64; omega⟩
      generalize D[k.toNat] = x at *
      have hls : s.data.toList.length = s.size := rfl
      show storeW (List.replicate 64 (.int .u8 0)) ((⟨g, k.toNat * 129, none⟩ : Addr).add 64) 0 _ w
      rw [add_mk]
      have e1 : A ++ encS x ++ C = (A ++ x.firm.map u8v) ++ x.read.map u8v ++ ([.bool x.fresh] ++ C) := by simp [encS]
      rw [e1] at H
      refine Own.storeRow H (by simp [hp, hx.1, hx.2]; omega) (fun v hv => by rw [(List.mem_replicate.1 hv).2]; rfl) fun u H => ?_
      have hp1 : (A ++ x.firm.map u8v).length = k.toNat * 129 + 64 := by simp [hp, hx.1]
      try rw [Nat.add_zero] at H
      rw [← hp1, putL_mid _ _ _ _ (by simp [hx.2])] at H
      have e2 : (List.replicate 64 (Value.int .u8 0)) = List.replicate s.size (.int .u8 0) ++ List.replicate (64 - s.size) (.int .u8 0) := by rw [List.replicate_append_replicate]; congr 1; omega
      rw [e2, ← List.append_assoc (A ++ x.firm.map u8v), List.append_assoc _ (List.replicate (64 - s.size) _)] at H
      refine ⟨⟨by omega, by omega, by omega⟩, ?_⟩
      have ha : (if 64 = (0 : Int).toNat then ((⟨g, k.toNat * 129, none⟩ : Addr).add 64) else ((⟨g, k.toNat * 129, none⟩ : Addr).add 64).add ((0 : Int).toNat * 1)) = ⟨g, k.toNat * 129 + 64, none⟩ := by simp [add_mk]
      rw [ha]
      obtain ⟨u2, hr, H⟩ := H.copyString (dT := T.«l_u8») (sT := T.«string») (ty := T.«i64'») (s := s) (dLen := ((64 : Nat) : Int).toNat - (0 : Int).toNat) (dCap := 64 - (0 : Int).toNat) Tryz.underlying42 Tryz.sizeOf5 hp1.symm (by show s.size ≤ 64; exact hs) (by simp)
      refine ⟨_, _, hr, ?_⟩
      show (∃ old, u2.cell? (((⟨g, k.toNat * 129, none⟩ : Addr).add 128).add 0) = some old) ∧ u2.frozen? (((⟨g, k.toNat * 129, none⟩ : Addr).add 128).add 0) = false ∧ _
      rw [add_mk, add_mk]
      have e3 : A ++ x.firm.map u8v ++ s.data.toList.map u8v ++ (List.replicate (64 - s.size) (Value.int .u8 0) ++ ([Value.bool x.fresh] ++ C)) = (A ++ x.firm.map u8v ++ s.data.toList.map u8v ++ List.replicate (64 - s.size) (Value.int .u8 0)) ++ [Value.bool x.fresh] ++ C := by simp
      rw [e3] at H
      have hp2 : (A ++ x.firm.map u8v ++ s.data.toList.map u8v ++ List.replicate (64 - s.size) (Value.int .u8 0)).length = k.toNat * 129 + 128 + 0 := by simp only [List.length_append, List.length_map, List.length_replicate, hp, hx.1, hls]; omega
      refine Own.setRow H (by simp only [List.length_append, List.length_map, List.length_replicate, hp, hx.1, hls, List.length_singleton]; omega) fun u3 H => ⟨rfl, ?_⟩
      have e4 : ((A ++ x.firm.map u8v ++ s.data.toList.map u8v ++ List.replicate (64 - s.size) (Value.int .u8 0)) ++ [Value.bool x.fresh] ++ C).set (k.toNat * 129 + 128 + 0) (.bool true) = A ++ encS (wrS x s) ++ C := by
        have := putL_mid [.bool true] [.bool x.fresh] (A ++ x.firm.map u8v ++ s.data.toList.map u8v ++ List.replicate (64 - s.size) (Value.int .u8 0)) C rfl
        rw [hp2] at this
        exact this.trans (by simp [encS, wrS])
      rw [e4, ← hset] at H
      exact Dev.cl (hD.set hok) H.dn1
  · refine ⟨_, _, rfl, bcase_mk (fun _ => ?_) fun h => by cases h⟩
    unfold wrD
    rw [if_neg hk]
    exact ⟨rfl, Dev.cl hD H⟩

theorem d_Read (h : (Dev b D).on w S) (k : Int) : Calls P F.«device_Device_Read» ⟨[.pointer (some ⟨b, 0, none⟩), .int .i64 k]⟩ w fun e w' => e = .returned (.tuple ⟨[.string (rdD D k).1, .int .i64 (rdD D k).2]⟩) ∧ w = w' := by
  refine ok_device_Device_Read ?_
  unfold V_device_Device_Read
  obtain ⟨hD, g, c, H⟩ := Dev.op (Own.of1 h)
  refine (d_at H.ob k).mono ?_
  rintro _ _ (⟨hk, rfl, rfl⟩ | ⟨hk, rfl, rfl⟩)
  · refine ⟨_, _, rfl, bcase_mk (fun h => by cases h) fun _ => ⟨⟨by omega, by omega, by omega⟩, ?_⟩⟩
    unfold rdD
    rw [if_pos hk]
    have hlt : k.toNat < D.length := by rw [hD.1]; omega
    have hx := hD.at_ hlt
    have hp := hD.pre (k := k.toNat) (by omega)
    have hg : D.getD k.toNat slot0 = D[k.toNat] := by simp [List.getD, List.getElem?_eq_getElem hlt]
    rw [hg]
    have H := H.up1
    rw [flatS_split hlt, show ∀ A C, A ++ encS D[k.toNat] ++ C = (A ++ (D[k.toNat]).firm.map u8v) ++ (D[k.toNat]).read.map u8v ++ ([.bool (D[k.toNat]).fresh] ++ C) from fun A C => by simp [encS]] at H
    have ha : (if 64 = (0 : Int).toNat then ((⟨g, k.toNat * 129, none⟩ : Addr).add 64) else ((⟨g, k.toNat * 129, none⟩ : Addr).add 64).add ((0 : Int).toNat * 1)) = ⟨g, k.toNat * 129 + 64, none⟩ := by simp [add_mk]
    rw [ha]
    exact ⟨_, _, H.toString Tryz.underlying42 Tryz.underlying5 Tryz.underlying9 (by simp [hp, hx.1]) (by show 64 = _; exact hx.2.symm), rfl, rfl⟩
  · refine ⟨_, _, rfl, bcase_mk (fun _ => ?_) fun h => by cases h⟩
    unfold rdD
    rw [if_neg hk]
    exact ⟨rfl, rfl⟩

/-- A block, settled: c first bytes are. -/
def setS (x : Slot) (c : Nat) : Slot := ⟨x.read.take c ++ x.firm.drop c, x.read.take c ++ x.firm.drop c, false⟩
def settStep (m : Nat → Nat) (acc : List Slot × Nat) (x : Slot) : List Slot × Nat := if x.fresh then (acc.1 ++ [setS x (min (m acc.2) 64)], acc.2 + 1) else (acc.1 ++ [x], acc.2)
def sett (m : Nat → Nat) (D : List Slot) : List Slot × Nat := D.foldl (settStep m) ([], 0)
theorem setS_ok {x : Slot} (h : x.ok) (c : Nat) : (setS x c).ok := by
  have : (x.read.take c ++ x.firm.drop c).length = 64 := by simp [h.1, h.2]; omega
  exact ⟨this, this⟩
theorem sett_len (m : Nat → Nat) (D : List Slot) (h : ∀ s ∈ D, s.ok) : (sett m D).1.length = D.length ∧ (sett m D).2 ≤ D.length ∧ ∀ s ∈ (sett m D).1, s.ok := by
  have go : ∀ (D : List Slot) (acc : List Slot × Nat), (∀ s ∈ D, s.ok) → (∀ s ∈ acc.1, s.ok) → (D.foldl (settStep m) acc).1.length = acc.1.length + D.length ∧ (D.foldl (settStep m) acc).2 ≤ acc.2 + D.length ∧ ∀ s ∈ (D.foldl (settStep m) acc).1, s.ok := by
    intro D
    induction D with
    | nil => exact fun acc _ h => ⟨by simp, by simp, h⟩
    | cons x D ih =>
      intro acc hD ha
      have hx := hD x (by simp)
      have h1 : ∀ s ∈ (settStep m acc x).1, s.ok := by
        unfold settStep
        split
        · intro s hs
          rcases List.mem_append.1 hs with h | h
          · exact ha s h
          · rw [List.mem_singleton.1 h]; exact setS_ok hx _
        · intro s hs
          rcases List.mem_append.1 hs with h | h
          · exact ha s h
          · rw [List.mem_singleton.1 h]; exact hx
      have h2 : (settStep m acc x).1.length = acc.1.length + 1 ∧ (settStep m acc x).2 ≤ acc.2 + 1 := by unfold settStep; split <;> simp
      obtain ⟨i1, i2, i3⟩ := ih _ (fun s hs => hD s (by simp [hs])) h1
      refine ⟨?_, ?_, i3⟩
      · rw [List.foldl_cons, i1, h2.1, List.length_cons]; omega
      · rw [List.foldl_cons, List.length_cons]; have := h2.2; omega
  have := go D ([], 0) h (fun _ h => by cases h)
  simpa [sett] using this
theorem sett_succ (m : Nat → Nat) {D : List Slot} {k : Nat} (hk : k < D.length) : sett m (D.take (k + 1)) = settStep m (sett m (D.take k)) D[k] := by
  unfold sett
  rw [List.take_succ_eq_append_getElem hk, List.foldl_append]; rfl

theorem d_settle (h : (Dev b D).on w S) {first : Value} {m : Nat → Nat} (hf : ∀ (n : Nat) (u : World), n < 256 → Keep S w u → callV P Bd first [.int .i64 n] u fun e u' => e = .returned (.int .i64 (m n : Nat)) ∧ Drew u u') :
    Calls P F.«device_Device_settle» ⟨[.pointer (some ⟨b, 0, none⟩), first]⟩ w fun e w' => e = .returned (.int .i64 ((sett m D).2 : Nat)) ∧ Own w S [Dev b (sett m D).1] w' := by
  refine ok_device_Device_settle ?_
  unfold V_device_Device_settle
  obtain ⟨hD, g, c, H⟩ := Dev.op (Own.of1 h)
  refine bcase_mk (fun h => by cases h) fun _ => ⟨_, _, _, cell_at H.ob rfl, fun p u => ∃ k n : Nat, p.1 = (n : Int) ∧ p.2.1 = (k : Int) ∧ k ≤ 256 ∧ n = (sett m (D.take k)).2 ∧ Own w S [At b (DevO (some ⟨g, 0, none⟩) c), .sl T.«device_slot» 129 (some ⟨g, 0, none⟩) 256 c (((sett m (D.take k)).1 ++ D.drop k).flatMap encS)] u, fun p _ => 256 - p.2.1.toNat, ⟨0, 0, rfl, rfl, by omega, rfl, H⟩, ?_⟩
  intro _ n5 n15 u hI
  obtain ⟨k, n, h5, h15, hk, hn, H⟩ := hI
  have h5 : n5 = (n : Int) := h5
  have h15 : n15 = (k : Int) := h15
  subst h5 h15
  generalize hbb : decide ((k : Int) < ((256 : Nat) : Int)) = bb
  refine bcase_mk (fun hlt => ?_) fun hge => ?_
  · have hlt : k < 256 := by have := of_decide_eq_true (hbb.trans hlt); omega
    obtain ⟨l1, l2, l3⟩ := sett_len m (D.take k) fun s hs => hD.2 s (List.mem_of_mem_take hs)
    have hkD : k < D.length := by rw [hD.1]; exact hlt
    have ht : (D.take k).length = k := by rw [List.length_take, hD.1]; omega
    rw [ht] at l1 l2
    have hx := hD.at_ hkD
    have hcat : (sett m (D.take k)).1 ++ D.drop k = (sett m (D.take k)).1 ++ D[k] :: D.drop (k + 1) := by rw [List.drop_eq_getElem_cons hkD]
    have hA : ((sett m (D.take k)).1.flatMap encS).length = k * 129 := by rw [flatS_length l3, l1]
    have hstep : ∀ y : Slot, (((sett m (D.take k)).1 ++ [y]) ++ D.drop (k + 1)).flatMap encS = (sett m (D.take k)).1.flatMap encS ++ encS y ++ (D.drop (k + 1)).flatMap encS := fun y => by simp [List.flatMap_append]
    have H0 := H
    rw [hcat, show ((sett m (D.take k)).1 ++ D[k] :: D.drop (k + 1)).flatMap encS = (sett m (D.take k)).1.flatMap encS ++ encS D[k] ++ (D.drop (k + 1)).flatMap encS by simp only [List.flatMap_append, List.flatMap_cons, List.append_assoc]] at H
    have hsucc := sett_succ m hkD
    generalize hx' : D[k] = x at *
    generalize hR : sett m (D.take k) = R at *
    obtain ⟨R1, R2⟩ := R
    generalize hAA : R1.flatMap encS = A at *
    generalize hCC : (D.drop (k + 1)).flatMap encS = C at *
    have wk : IntKind.wrap .i64 ((k : Int) + 1) = ((k + 1 : Nat) : Int) := by rw [wrap64 (by omega) (by omega)]; omega
    have hn2 : n = R2 := hn
    subst hn2
    have wn : IntKind.wrap .i64 ((n : Int) + 1) = ((n + 1 : Nat) : Int) := by
      have : n ≤ k := l2
      rw [wrap64 (by omega) (by omega)]; omega
    rw [wk, wn]
    have hmu : ∀ v : World, (fun (p : Tup [(5, CK.int .i64), (15, CK.int .i64)]) (_ : World) => 256 - p.2.1.toNat) (((n + 1 : Nat) : Int), ((k + 1 : Nat) : Int), ()) v < 256 - ((k : Nat) : Int).toNat := fun v => by show 256 - ((k + 1 : Nat) : Int).toNat < _; omega
    refine ⟨_, _, _, cell_at H.ob rfl, ⟨by omega, by omega⟩, x.fresh, ?_, ?_⟩
    · show u.cell? (((⟨g, 0, none⟩ : Addr).add ((k : Int).toNat * 129)).add 128) = _
      rw [add_mk, add_mk, Int.toNat_natCast, Nat.zero_add]
      refine H.up1.rowCell ?_
      rw [List.append_assoc, List.getElem?_append_right (by omega), hA, show k * 129 + 128 - k * 129 = 128 by omega, List.getElem?_append_left (by rw [encS_length hx]; omega)]
      simp [encS, hx.1, hx.2]
    · refine bcase_mk (fun hfr => ?_) fun hfr => ?_
      · have hfr : x.fresh = false := by simpa using hfr
        refine ⟨⟨k + 1, n, rfl, rfl, by omega, ?_, ?_⟩, by show 256 - ((k + 1 : Nat) : Int).toNat < 256 - ((k : Nat) : Int).toNat; omega⟩
        · rw [hsucc]; unfold settStep; rw [hfr, if_neg (by simp)]
        · rw [hsucc]; unfold settStep; rw [hfr, if_neg (by simp)]
          rw [hstep]; exact H
      · have hfr : x.fresh = true := by simpa using hfr
        have ea : ∀ j, (((⟨g, 0, none⟩ : Addr).add ((k : Int).toNat * 129)).add j) = ⟨g, k * 129 + j, none⟩ := fun j => by rw [add_mk, add_mk, Int.toNat_natCast, Nat.zero_add]
        have hse : A ++ encS x ++ C = (A ++ x.firm.map u8v) ++ x.read.map u8v ++ ([.bool x.fresh] ++ C) := by simp [encS]
        have hsf : A ++ encS x ++ C = A ++ x.firm.map u8v ++ (x.read.map u8v ++ ([.bool x.fresh] ++ C)) := by simp [encS]
        let cc := min (m n) 64
        let f := x.read.take cc ++ x.firm.drop cc
        have hfl : f.length = 64 := by simp [f, hx.1, hx.2]; omega
        have cR : ∀ {v : World}, Own w S [At b (DevO (some ⟨g, 0, none⟩) c), .sl T.«device_slot» 129 (some ⟨g, 0, none⟩) 256 c (A ++ encS x ++ C)] v → cellsAt v ⟨g, k * 129 + 64, none⟩ 0 (x.read.map u8v) ∧ cellsAt v ⟨g, k * 129, none⟩ 0 (x.firm.map u8v) := fun H => by
          have H1 := H.up1
          have H2 := H.up1
          rw [hse] at H1
          rw [hsf] at H2
          exact ⟨H1.rowCells (by simp [hA, hx.1]), H2.rowCells (by simp [hA])⟩
        refine ⟨fun _ v => Own w S [At b (DevO (some ⟨g, 0, none⟩) c), .sl T.«device_slot» 129 (some ⟨g, 0, none⟩) 256 c (A ++ f.map u8v ++ (x.read.map u8v ++ ([.bool x.fresh] ++ C)))] v, ?_, ?_⟩
        · refine exs_bytes (l := x.read) hx.2 ⟨?_, exs_bytes (l := x.firm) hx.1 ⟨?_, _, eql_bytes (e := T.«u8») (n := 64) (by kernel_rfl) (by kernel_rfl) Tryz.underlying202 Tryz.underlying5 (by kernel_rfl) (by kernel_rfl) u hx.2 hx.1, fun wd hd => ?_⟩⟩
          · show cellsAt u (((⟨g, 0, none⟩ : Addr).add ((k : Int).toNat * 129)).add 64) 0 _
            rw [ea]; exact (cR H).1
          · show cellsAt u (((⟨g, 0, none⟩ : Addr).add ((k : Int).toNat * 129)).add 0) 0 _
            rw [ea]; exact (cR H).2
          · have H := H.drew hd
            refine bcase_mk (fun hne => ?_) fun heq => ?_
            · intro wd2 hd2
              have H := H.drew hd2
              refine ⟨⟨by omega, by omega, by omega⟩, callV.mono (hf n wd2 (by have : n ≤ k := l2; omega) H.keep) ?_⟩
              rintro _ v ⟨rfl, hd3⟩
              have H := H.drew hd3
              have emin : (if (64 : Int) < ((m n : Nat) : Int) then 64 else ((m n : Nat) : Int)) = ((cc : Nat) : Int) := by
                show _ = ((min (m n) 64 : Nat) : Int); split <;> omega
              have hcc : cc ≤ 64 := Nat.min_le_right _ _
              refine ⟨_, rfl, ?_⟩
              rw [emin]
              refine ⟨⟨by omega, by omega, by omega⟩, ?_⟩
              have ha1 : (if 64 = (0 : Int).toNat then ((⟨g, 0, none⟩ : Addr).add ((k : Int).toNat * 129)).add 0 else (((⟨g, 0, none⟩ : Addr).add ((k : Int).toNat * 129)).add 0).add ((0 : Int).toNat * 1)) = ⟨g, k * 129, none⟩ := by simp [add_mk]
              have ha2 : (if 64 = (0 : Int).toNat then ((⟨g, 0, none⟩ : Addr).add ((k : Int).toNat * 129)).add 64 else (((⟨g, 0, none⟩ : Addr).add ((k : Int).toNat * 129)).add 64).add ((0 : Int).toNat * 1)) = ⟨g, k * 129 + 64, none⟩ := by simp [add_mk]
              rw [ha1, ha2]
              have H1 := H.up1
              rw [show A ++ encS x ++ C = A ++ (x.firm.take cc).map u8v ++ ((x.firm.drop cc).map u8v ++ (x.read.map u8v ++ ([.bool x.fresh] ++ C))) by
                have e6 := congrArg (List.map u8v) (List.take_append_drop cc x.firm)
                rw [List.map_append] at e6
                simp only [encS, List.append_assoc]
                rw [← e6]
                simp only [List.append_assoc]] at H1
              obtain ⟨v2, hr, H2⟩ := H1.copyRow (P := P) (dT := T.«l_u8») (sT := T.«l_u8») (ty := T.«i64'») (el := T.«u8») (X := A ++ x.firm.map u8v) (vs := (x.read.take cc).map u8v) (Y := (x.read.drop cc).map u8v ++ ([.bool x.fresh] ++ C)) (d := k * 129) (s := k * 129 + 64) (dLen := ((64 : Nat) : Int).toNat - (0 : Int).toNat) (dCap := 64 - (0 : Int).toNat) (sLen := ((cc : Nat) : Int).toNat - (0 : Int).toNat) (sCap := 64 - (0 : Int).toNat) Tryz.underlying42 (by kernel_rfl)
                (by
                  rw [List.append_assoc (A ++ x.firm.map u8v), ← List.append_assoc ((x.read.take cc).map u8v), ← List.map_append, List.take_append_drop]
                  rw [List.append_assoc A ((x.firm.take cc).map u8v), ← List.append_assoc ((x.firm.take cc).map u8v), ← List.map_append, List.take_append_drop, List.append_assoc A])
                (by rw [hA]) (by simp [hA, hx.1])
                (by show ((x.read.take cc).map u8v).length = min (((cc : Nat) : Int).toNat - 0) 64; rw [List.length_map, List.length_take, hx.2, Int.toNat_natCast]; omega)
                (by simp [hx.1, hx.2]) (fun v hv => by obtain ⟨_, _, rfl⟩ := List.mem_map.1 hv; rfl)
              refine ⟨_, _, hr, ?_⟩
              have H3 := H2.dn1
              rw [show A ++ (x.read.take cc).map u8v ++ ((x.firm.drop cc).map u8v ++ (x.read.map u8v ++ ([.bool x.fresh] ++ C))) = A ++ f.map u8v ++ (x.read.map u8v ++ ([.bool x.fresh] ++ C)) by simp [f, List.append_assoc]] at H3
              exact H3
            · have heq : x.read = x.firm := by simpa using heq
              have : f = x.firm := by show x.read.take cc ++ x.firm.drop cc = _; rw [heq, List.take_append_drop]
              show Own w S [_, .sl _ _ _ _ _ (A ++ f.map u8v ++ _)] wd
              rw [this, ← hsf]; exact H
        · intro _ v H
          refine exs_bytes (l := f) hfl ⟨?_, ?_⟩
          · show cellsAt v (((⟨g, 0, none⟩ : Addr).add ((k : Int).toNat * 129)).add 0) 0 _
            rw [ea]; exact H.up1.rowCells (by simp [hA])
          · have hb : Nat.beq (f.map u8v).length 64 = true := by rw [List.length_map, hfl]; rfl
            rw [hb]
            show storeW (f.map u8v) (((⟨g, 0, none⟩ : Addr).add ((k : Int).toNat * 129)).add 64) 0 _ v
            rw [ea]
            have H1 := H.up1
            rw [show A ++ f.map u8v ++ (x.read.map u8v ++ ([.bool x.fresh] ++ C)) = (A ++ f.map u8v) ++ x.read.map u8v ++ ([.bool x.fresh] ++ C) by simp] at H1
            have hp1 : (A ++ f.map u8v).length = k * 129 + 64 := by simp [hA, hfl]
            refine Own.storeRow H1 (by simp [hA, hfl, hx.2]; omega) (fun v hv => by obtain ⟨_, _, rfl⟩ := List.mem_map.1 hv; rfl) fun u2 H2 => ?_
            try rw [Nat.add_zero] at H2
            rw [← hp1, putL_mid _ _ _ _ (by simp [hfl, hx.2])] at H2
            show (∃ old, u2.cell? ((((⟨g, 0, none⟩ : Addr).add ((k : Int).toNat * 129)).add 128).add 0) = some old) ∧ u2.frozen? ((((⟨g, 0, none⟩ : Addr).add ((k : Int).toNat * 129)).add 128).add 0) = false ∧ _
            rw [ea, add_mk]
            rw [← List.append_assoc (A ++ f.map u8v ++ f.map u8v)] at H2
            have hp2 : (A ++ f.map u8v ++ f.map u8v).length = k * 129 + 128 + 0 := by simp [hA, hfl]
            refine Own.setRow H2 (by simp [hA, hfl]; omega) fun u3 H3 => ⟨⟨k + 1, n + 1, rfl, rfl, by omega, ?_, ?_⟩, by show 256 - ((k + 1 : Nat) : Int).toNat < 256 - ((k : Nat) : Int).toNat; omega⟩
            · rw [hsucc]; unfold settStep; rw [hfr, if_pos rfl]
            · rw [hsucc]; unfold settStep; rw [hfr, if_pos rfl, hstep]
              have := putL_mid [.bool false] [.bool x.fresh] (A ++ f.map u8v ++ f.map u8v) C rfl
              rw [hp2] at this
              have e5 : (A ++ f.map u8v ++ f.map u8v ++ [Value.bool x.fresh] ++ C).set (k * 129 + 128 + 0) (.bool false) = A ++ encS (setS x (min (m n) 64)) ++ C := this.trans (by simp [encS, setS, f, cc])
              rw [e5] at H3
              exact H3.dn1
  · have : k = 256 := by have := of_decide_eq_false (hbb.trans hge); omega
    subst this
    rw [List.take_of_length_le (by rw [hD.1]; omega)] at H hn
    rw [List.drop_of_length_le (by rw [hD.1]; omega), List.append_nil] at H
    obtain ⟨l1, _, l3⟩ := sett_len m D hD.2
    exact ⟨by rw [hn], Dev.cl ⟨by rw [l1]; exact hD.1, l3⟩ H⟩

theorem f_flush1 (n : Int) (w : World) : Calls P F.«device_Device_Flush_1» ⟨[.int .i64 n]⟩ w fun e w' => e = .returned (.int .i64 (64 : Nat)) ∧ Drew w w' := by
  refine ok_device_Device_Flush_1 ?_
  exact ⟨rfl, Drew.refl _⟩
theorem d_Flush (h : (Dev b D).on w S) : Calls P F.«device_Device_Flush» ⟨[.pointer (some ⟨b, 0, none⟩)]⟩ w fun e w' => (∃ n : Nat, e = .returned (.int .i64 n)) ∧ Own w S [Dev b (sett (fun _ => 64) D).1] w' := by
  refine ok_device_Device_Flush ?_
  unfold V_device_Device_Flush
  refine (d_settle h (m := fun _ => 64) fun n u _ _ => ?_).mono ?_
  · exact callV_fn (by kernel_rfl) (f_flush1 _ _)
  · rintro _ w' ⟨rfl, H⟩
    exact ⟨_, rfl, ⟨_, rfl⟩, H⟩

abbrev i64v (n : Int) : Value := .int .i64 n
/-- How many first bytes the n-th fresh block keeps. -/
def crashM (cs : List Int) (n : Nat) : Nat :=
  if cs = [] then 0 else (if Int.tmod (cs.getD (n % cs.length) 0) 66 < 0 then Int.tmod (cs.getD (n % cs.length) 0) 66 + 66 else Int.tmod (cs.getD (n % cs.length) 0) 66).toNat

theorem f_crash1 {cb : Nat} {ca : Option Addr} {cc : Nat} {cs : List Int} (hb : w.heap[cb]? = some (.cells ⟨[.slice ca cs.length cc]⟩ T.«l_i64»)) (hc : Sl w T.«i64'» 1 ca cs.length cc (cs.map i64v)) (n : Nat) (hl : cs.length ≤ 1000000) :
    Calls P F.«device_Device_Crash_1» ⟨[.int .i64 n, .pointer (some ⟨cb, 0, none⟩)]⟩ w fun e w' => e = .returned (.int .i64 (crashM cs n : Nat)) ∧ Drew w w' := by
  refine ok_device_Device_Crash_1 ?_
  unfold V_device_Device_Crash_1
  refine ⟨_, _, _, cell_at0 hb rfl, ?_⟩
  by_cases h0 : cs = []
  · subst h0
    exact bcase_mk (fun _ => ⟨rfl, Drew.refl _⟩) fun h => by cases h
  · have hpos : 0 < cs.length := List.length_pos_iff.2 h0
    generalize hbb : (((cs.length : Nat) : Int) == 0) = bb
    refine bcase_mk (fun h => by rw [h] at hbb; have := eq_of_beq hbb; omega) fun _ => ⟨_, _, _, cell_at0 hb rfl, _, _, _, cell_at0 hb rfl, by omega, ?_⟩
    have e1 : Int.tmod (n : Int) (cs.length : Int) = ((n % cs.length : Nat) : Int) := by rw [Int.tmod_eq_emod_of_nonneg (by omega)]; rfl
    have hlt : n % cs.length < cs.length := Nat.mod_lt _ hpos
    rw [e1]
    obtain ⟨g, rfl⟩ := hc.some hpos
    have hg : cs.getD (n % cs.length) 0 = cs[n % cs.length] := by simp [List.getD, List.getElem?_eq_getElem hlt]
    refine ⟨⟨by omega, by omega⟩, cs[n % cs.length], ?_, by decide, fun wd hd => ?_⟩
    · rw [add_mk, Int.toNat_natCast, Nat.mul_one, Nat.zero_add]
      exact (hc.cell (by simp [List.getElem?_eq_getElem hlt])).2
    · have hb1 := Int.tmod_lt_of_pos cs[n % cs.length] (show (0 : Int) < 66 by decide)
      have hb2 : -66 < Int.tmod cs[n % cs.length] 66 := by
        have := Int.tmod_lt_of_pos (-cs[n % cs.length]) (show (0 : Int) < 66 by decide)
        rw [Int.neg_tmod] at this; omega
      unfold crashM
      rw [if_neg h0, hg]
      generalize Int.tmod cs[n % cs.length] 66 = t at *
      refine bcase_mk (fun h => ⟨?_, hd⟩) fun h => ⟨?_, hd⟩
      · have h := of_decide_eq_true h
        rw [wrap64 (by omega) (by omega), if_pos h, Int.toNat_of_nonneg (by omega)]
      · have h := of_decide_eq_false h
        rw [if_neg h, Int.toNat_of_nonneg (by omega)]

theorem d_Crash (h : (Dev b D).on w S) {ca : Option Addr} {cc : Nat} {cs : List Int} (hc : Sl w T.«i64'» 1 ca cs.length cc (cs.map i64v)) (hs : ∀ g, Blk ca g → ¬ S g) (hl : cs.length ≤ 1000000) :
    Calls P F.«device_Device_Crash» ⟨[.pointer (some ⟨b, 0, none⟩), .slice ca cs.length cc]⟩ w fun e w' => e = .returned (.tuple ⟨[]⟩) ∧ Own w S [Dev b (sett (crashM cs) D).1] w' := by
  refine ok_device_Device_Crash ?_
  unfold V_device_Device_Crash
  refine alloc_step fun u0 n0 => ?_
  have hc0 : Sl u0 T.«i64'» 1 ca cs.length cc (cs.map i64v) := hc.keep n0.keep fun _ _ h => h
  have h0 : (Dev b D).on u0 S := (Dev b D).loc h (fun g hg => n0.keep.block g ((Dev b D).lt h hg) fun h => h) n0.keep.size
  refine (d_settle h0 (m := crashM cs) fun n u _ hk => callV_fn (by kernel_rfl) ?_).mono ?_
  · exact f_crash1 (hk.at_ n0.at_ fun hg => by have := (Dev b D).lt h hg; omega) (hc0.keep hk hs) n hl
  · rintro _ w' ⟨rfl, H⟩
    exact ⟨_, rfl, rfl, H.since n0.keep⟩

theorem zeroRow {zc : Array Value} {sz : Nat} (hz : zc.size = sz) (hp : 0 < sz) : ∀ n : Nat, ((Array.range (n * sz)).map (zc[· % sz]!)).toList = (List.replicate n zc.toList).flatten := by
  intro n
  apply List.ext_getElem?
  intro i
  rw [Array.toList_map, Array.toList_range]
  induction n generalizing i with
  | zero => simp
  | succ n ih =>
    rw [List.replicate_succ, List.flatten_cons, List.getElem?_map]
    by_cases hi : i < sz
    · have h1 : i < (n + 1) * sz := by rw [Nat.succ_mul]; omega
      rw [List.getElem?_append_left (by simpa [hz] using hi), List.getElem?_range h1]
      simp [Nat.mod_eq_of_lt hi, Array.getElem?_eq_getElem (show i < zc.size by omega), getElem!_pos zc i (by omega)]
    · rw [List.getElem?_append_right (by simpa [hz] using Nat.le_of_not_lt hi)]
      have e : zc.toList.length = sz := by simpa using hz
      rw [e, ← ih (i - sz), List.getElem?_map]
      by_cases h2 : i < (n + 1) * sz
      · have h3 : i - sz < n * sz := by rw [Nat.succ_mul] at h2; omega
        rw [List.getElem?_range h2, List.getElem?_range h3]
        simp only [Option.map_some]
        congr 2
        conv => lhs; rw [show i = i - sz + sz by omega, Nat.add_mod_right]
      · have h3 : ¬ i - sz < n * sz := by rw [Nat.succ_mul] at h2; omega
        rw [List.getElem?_eq_none (by simpa using h2), List.getElem?_eq_none (by simpa using h3)]

theorem d_New (w : World) : Calls P F.«device_New» ⟨[.int .i64 256]⟩ w fun e w' => ∃ b, e = .returned (.pointer (some ⟨b, 0, none⟩)) ∧ Own w NoB [Dev b (List.replicate 256 slot0)] w' := by
  refine ok_device_New ?_
  unfold V_device_New
  refine bcase_mk (fun h => by cases h) fun _ => bcase_mk (fun h => by cases h) fun _ => ?_
  obtain ⟨u, hr, n⟩ := makeSlice_own (P := P) (w := w) (t := T.«l_device_slot») (e := T.«device_slot») (sz := 129) (bytes := 129) (z := .agg ⟨List.replicate 128 (.int .u8 0) ++ [.bool false]⟩) Tryz.underlying113 (by kernel_rfl) (by show (List.replicate 128 (Value.int .u8 0) ++ [Value.bool false]).length = 129; simp) (by decide) (ln := 256) (cn := 256) (l := 256) (c := 256) rfl rfl (by decide) (by decide) (by decide)
  refine ⟨_, _, _, _, hr, (Own.new n).al fun u' H => ⟨_, rfl, ?_⟩⟩
  have hok : slot0.ok := ⟨List.length_replicate, List.length_replicate⟩
  have hall : ∀ s ∈ List.replicate 256 slot0, s.ok := fun s hs => by rw [(List.mem_replicate.1 hs).2]; exact hok
  have H := H.up1
  refine Dev.cl ⟨List.length_replicate, hall⟩ (H.turn1 fun S h => ⟨fun g => ?_, ?_⟩)
  · exact (h.1 g).trans ⟨fun e => by rw [e]; exact Blk.mk _ _, fun e => e.eq⟩
  · have hs := Sl.mk' (sz := 129) (n := 256) (c := 256) h.2 (Nat.le_refl _) (by decide) (by rw [Array.size_map, Array.size_range])
    rw [zeroRow (by show (List.replicate 128 (Value.int .u8 0) ++ [Value.bool false]).length = 129; simp) (by decide) 256] at hs
    have e : (List.replicate 256 (Value.agg ⟨List.replicate 128 (Value.int .u8 0) ++ [Value.bool false]⟩).cells.toList).flatten = (List.replicate 256 slot0).flatMap encS := by
      have e1 : (Value.agg ⟨List.replicate 128 (Value.int .u8 0) ++ [Value.bool false]⟩).cells.toList = encS slot0 := by
        show List.replicate 128 (Value.int .u8 0) ++ [Value.bool false] = (List.replicate 64 (0 : UInt8)).map u8v ++ (List.replicate 64 (0 : UInt8)).map u8v ++ [.bool false]
        rw [List.map_replicate, List.replicate_append_replicate]; rfl
      rw [e1, List.flatMap_def, List.map_replicate]
    rw [e, List.take_of_length_le (by rw [flatS_length hall, List.length_replicate]; exact Nat.le_refl _)] at hs
    exact hs
end
end Go.Proofs.YtgepmlgkeljelaaGreat.Vc
