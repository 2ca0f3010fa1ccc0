/- Plans of a pool: may, try, one, Put, each, Hold, Release. -/
import Derived.Test.YtgepmlgkeljelaaGreatPoPool
namespace Go.Proofs.YtgepmlgkeljelaaGreat.Vc
open Go Go.Proofs

abbrev PlnO (pb tq fq : Nat) (over : Bool) : Obj := .cells ⟨[ptr pb, ptr tq, ptr fq, .bool over]⟩ T.«pool_Plan»
/-- What a plan would change. -/
structure PS where
  L : List Chk
  nx : Int
  f : Nat → Bool
/-- A plan that is not over. -/
abbrev PQ (qb pb tq fq : Nat) (s : PS) : List Asrt := [At qb (PlnO pb tq fq false), Ded tq s.L s.nx, Spc fq s.f]

section
variable {w W0 : World} {S S0 : Foot} {qb pb tq fq : Nat} {s : PS} {l : List Asrt}

theorem q_may {over : Bool} (h : w.heap[qb]? = some (PlnO pb tq fq over)) : Calls P F.«pool_Plan_may» ⟨[ptr qb]⟩ w fun e w' => e = .returned (.int .i64 (if over then 17 else 0)) ∧ w = w' := by
  refine ok_pool_Plan_may ?_
  unfold V_pool_Plan_may
  exact bcase_mk (fun h => by cases h) fun _ => ⟨_, cell_at h rfl, bcase_mk (fun h => by cases h) fun _ => ⟨_, cell_at h rfl, bcase_mk (fun ho => ⟨by rw [ho]; rfl, rfl⟩) fun ho => ⟨by rw [ho]; rfl, rfl⟩⟩⟩

theorem q_try_over (h : w.heap[qb]? = some (PlnO pb tq fq true)) (dox : Value) : Calls P F.«pool_Plan_try» ⟨[ptr qb, dox]⟩ w fun e w' => e = .returned (.int .i64 17) ∧ Keep NoB w w' := by
  refine ok_pool_Plan_try ?_
  unfold V_pool_Plan_try
  refine (Own.nil w).al fun u0 B => B.al fun u1 B => ⟨_, B.rd0 rfl, (q_may (B.keep.at_ h fun h => h)).mono ?_⟩
  rintro _ _ ⟨rfl, rfl⟩
  exact ⟨_, rfl, bcase_mk (fun _ => B.st fun u B => ⟨_, B.rd0 rfl, rfl, B.keep⟩) fun h => by cases h⟩

/-- TRY: the plan is over if what is done tells an error. -/
theorem q_try {A : Asrt} {B : Int → Asrt} (h : Sep [At qb (PlnO pb tq fq false), A] w S) {dox : Value}
    (hd : ∀ (u : World) (Q : Foot), Sep [At qb (PlnO pb tq fq false), A] u Q → (∀ g, Q g → S g ∨ w.heap.size ≤ g) → Keep S w u → callV P Bd dox [] u fun e u' => ∃ n, e = .returned (.int .i64 n) ∧ Own u Q [At qb (PlnO pb tq fq false), B n] u') :
    Calls P F.«pool_Plan_try» ⟨[ptr qb, dox]⟩ w fun e w' => ∃ n, e = .returned (.int .i64 n) ∧ Own w S [At qb (PlnO pb tq fq (n != 0)), B n] w' := by
  refine ok_pool_Plan_try ?_
  unfold V_pool_Plan_try
  refine (Own.of h).al fun u0 H => H.al fun u1 H => ⟨_, H.rd0 rfl, (q_may H.ob).mono ?_⟩
  rintro _ _ ⟨rfl, rfl⟩
  refine ⟨_, rfl, bcase_mk (fun h => by cases h) fun _ => ?_⟩
  have H : Own w S [At qb (PlnO pb tq fq false), A, At w.heap.size (.cells ⟨[ptr qb]⟩ T.«p_pool_Plan»), At u0.heap.size (.cells ⟨[.int .i64 0]⟩ T.«api_Errno»)] u1 := H
  obtain ⟨Q, hQ, hQb, back⟩ := H.twoB
  refine callV.mono (hd u1 Q hQ hQb H.keep) ?_
  rintro _ u2 ⟨n, rfl, h2⟩
  have H := back _ _ _ _ h2
  refine ⟨_, rfl, H.st fun u3 H => okD_pool_Plan_try_1 ?_⟩
  unfold V_pool_Plan_try_1
  refine ⟨some ⟨qb, 0, none⟩, H.rd0 rfl, some ⟨qb, 0, none⟩, H.rd0 rfl, false, H.rd (i := 3) rfl, bcase_mk (fun h => by cases h) fun _ => ⟨n, H.rd0 rfl, fun wd hd => ?_⟩⟩
  exact (H.drew hd).st1 fun u4 H => ⟨⟨_, rfl⟩, n, H.rd0 rfl, n, rfl, H.front2⟩

def oneR (s : PS) (d : ByteArray) : (Int × Int) × PS :=
  match getD s.L d with
  | some c => ((c.id, (holdR s.L c.id).1), { s with L := (holdR s.L c.id).2 })
  | none => match takeR s.f 128 128 with
    | none => ((0, 7), s)
    | some k => ((addR s.L s.nx d k).1, ⟨(addR s.L s.nx d k).2.1, (addR s.L s.nx d k).2.2, fun i => if i = k then true else s.f i⟩)

theorem q_one (h : Sep (PQ qb pb tq fq s) w S) (d : ByteArray) (hd : d.size ≤ 1000000) (hl : s.L.length < 1000) :
    Calls P F.«pool_Plan_one» ⟨[ptr qb, .string d]⟩ w fun e w' => e = .returned (.tuple ⟨[.int .u32 (oneR s d).1.1, .int .i64 (oneR s d).1.2]⟩) ∧ Own w S (PQ qb pb tq fq (oneR s d).2) w' := by
  refine ok_pool_Plan_one ?_
  unfold V_pool_Plan_one
  have H := Own.of h
  refine ⟨some ⟨tq, 0, none⟩, H.rd (i := 1) rfl, ?_⟩
  obtain ⟨S1, ht⟩ := H.has i1
  refine (t_Find ht d (by omega)).mono ?_
  rintro _ w1 ⟨rfl, k⟩
  have H := H.quiet k
  refine ⟨_, _, rfl, ?_⟩
  unfold oneR
  cases hg : getD s.L d with
  | some c =>
    refine bcase_mk (fun _ => ⟨some ⟨tq, 0, none⟩, H.rd (i := 1) rfl, ?_⟩) fun h => by cases h
    obtain ⟨S2, ht, back⟩ := H.foc1
    refine (t_Hold ht c.id).mono ?_
    rintro _ w2 ⟨rfl, h2⟩
    exact ⟨_, rfl, rfl, back _ _ _ h2⟩
  | none =>
    refine bcase_mk (fun h => by cases h) fun _ => ⟨some ⟨fq, 0, none⟩, H.rd (i := 2) rfl, ?_⟩
    obtain ⟨S2, hf, back⟩ := H.foc2
    refine (p_Take hf).mono ?_
    rintro _ w2 (⟨e, rfl, h2⟩ | ⟨k, e, k1, k2, k3, rfl, h2⟩)
    · rw [e]
      exact ⟨_, _, rfl, bcase_mk (fun _ => ⟨rfl, back _ _ _ h2⟩) fun h => by cases h⟩
    · rw [e]
      have H := back _ _ _ h2
      refine ⟨_, _, rfl, bcase_mk (fun h => by cases h) fun _ => ⟨some ⟨tq, 0, none⟩, H.rd (i := 1) rfl, ?_⟩⟩
      obtain ⟨S3, ht, back⟩ := H.foc1
      refine (t_Add ht d k (by omega) hl).mono ?_
      rintro _ w3 ⟨rfl, h3⟩
      exact ⟨_, _, rfl, rfl, back _ _ _ h3⟩

def putR (s : PS) : List ByteArray → Int × List Int × PS
  | [] => (0, [], s)
  | d :: ds => if (oneR s d).1.2 ≠ 0 then ((oneR s d).1.2, [], (oneR s d).2)
    else ((putR (oneR s d).2 ds).1, (oneR s d).1.1 :: (putR (oneR s d).2 ds).2.1, (putR (oneR s d).2 ds).2.2)

/-- As many chunks as are used blocks, at most. -/
def PS.room (s : PS) : Prop := s.L.length + frees s.f 256 ≤ 128
theorem frees_take {f : Nat → Bool} {k : Nat} (hk : 128 ≤ k) (hf : f k = false) : ∀ n, frees (fun i => if i = k then true else f i) n + (if k < n then 1 else 0) = frees f n
  | 0 => by simp [frees]
  | n + 1 => by
    have ih := frees_take hk hf n
    unfold frees
    by_cases e : n = k
    · subst e
      rw [if_neg (by omega)] at ih
      rw [if_neg (by simp), if_pos (by omega), if_pos ⟨hk, hf⟩]; omega
    · simp only [e, if_false]
      by_cases h1 : k < n
      · rw [if_pos h1] at ih; rw [if_pos (show k < n + 1 by omega)]; omega
      · rw [if_neg h1] at ih; rw [if_neg (show ¬ k < n + 1 by omega)]; omega
theorem takeR_some {f : Nat → Bool} : ∀ {n i k : Nat}, takeR f n i = some k → i ≤ k ∧ k < i + n ∧ f k = false
  | 0, _, _, h => by cases h
  | n + 1, i, k, h => by
    unfold takeR at h
    cases hf : f i with
    | true => rw [hf, if_pos rfl] at h; obtain ⟨h1, h2, h3⟩ := takeR_some h; exact ⟨by omega, by omega, h3⟩
    | false => rw [hf, if_neg (by simp)] at h; cases h; exact ⟨Nat.le_refl _, by omega, hf⟩
theorem holdR_len (L : List Chk) (id : Int) : (holdR L id).2.length = L.length := by
  unfold holdR
  split
  · rfl
  · split
    · rfl
    · split
      · rfl
      · simp
theorem addR_len (L : List Chk) (nx : Int) (d : ByteArray) (k : Int) : (addR L nx d k).2.1.length ≤ L.length + 1 := by
  unfold addR
  repeat' split
  all_goals simp [insC_length]
theorem releaseR_len (L : List Chk) (id : Int) : (releaseR L id).2.length ≤ L.length := by
  unfold releaseR
  split
  · simp
  · split
    · simp
    · split
      · simp
      · simp only [List.length_eraseIdx]; split <;> omega
theorem oneR_room (h : s.room) (d : ByteArray) : (oneR s d).2.room := by
  unfold oneR
  split
  · unfold PS.room at *; simp only [holdR_len]; exact h
  · split
    · exact h
    · rename_i k hk
      obtain ⟨h1, h2, h3⟩ := takeR_some hk
      have := frees_take h1 h3 256
      rw [if_pos (by omega)] at this
      have := addR_len s.L s.nx d k
      unfold PS.room at *
      simp only
      omega
theorem PS.room.lt (h : s.room) : s.L.length < 1000 := by unfold PS.room at h; omega

abbrev u32v (n : Int) : Value := .int .u32 n
theorem q_Put (h : Sep (PQ qb pb tq fq s) w S) (d : ByteArray) (hd : d.size ≤ 1000) (hr : s.room) :
    Calls P F.«pool_Plan_Put» ⟨[ptr qb, .string d]⟩ w fun e w' => 
      ((putR s (pcs d)).1 = 0 ∧ ∃ a c, e = .returned (.tuple ⟨[.slice a (putR s (pcs d)).2.1.length c, .int .i64 0]⟩) ∧ Own w S (PQ qb pb tq fq (putR s (pcs d)).2.2 ++ [.sl T.«u32» 1 a (putR s (pcs d)).2.1.length c ((putR s (pcs d)).2.1.map u32v)]) w') ∨
      ((putR s (pcs d)).1 ≠ 0 ∧ e = .returned (.tuple ⟨[.slice none 0 0, .int .i64 (putR s (pcs d)).1]⟩) ∧ Own w S [At qb (PlnO pb tq fq true), Ded tq (putR s (pcs d)).2.2.L (putR s (pcs d)).2.2.nx, Spc fq (putR s (pcs d)).2.2.f] w') := by
  refine ok_pool_Plan_Put ?_
  unfold V_pool_Plan_Put
  refine (Own.of h).al fun u0 H => H.al fun u1 H => H.al fun u2 H => ⟨some ⟨qb, 0, none⟩, H.rd0 rfl, ?_⟩
  let X : PS → Option Addr → Nat → List Int → List Asrt := fun s a c ids => [.sl T.«u32» 1 a ids.length c (ids.map u32v), Ded tq s.L s.nx, Spc fq s.f, At w.heap.size (.cells ⟨[ptr qb]⟩ T.«p_pool_Plan»), At u0.heap.size (.cells ⟨[.string d]⟩ T.«string»), At u1.heap.size (.cells ⟨[.slice a ids.length c]⟩ T.«l_u32»)]
  have H : Own w S ([At qb (PlnO pb tq fq false)] ++ X s none 0 []) u2 := (H.nilRow T.«u32» 1).up1
  have H : Own w S [At qb (PlnO pb tq fq false), .sep (X s none 0 [])] u2 := (Own.mkSep (l1 := X s none 0 []) (l := [At qb (PlnO pb tq fq false)]) (H.perm List.perm_append_comm)).up1
  obtain ⟨Q0, hQ0, back⟩ := H.all
  let res := putR s (pcs d)
  have hlen := pcs_len d.size d (Nat.le_refl _)
  refine (q_try (A := .sep (X s none 0 [])) (B := fun n => .pure (n = res.1) (.ex fun ac : Option Addr × Nat => .ex fun ids => .pure (n = 0 → ids = res.2.1) (.sep (X res.2.2 ac.1 ac.2 ids)))) hQ0 fun u Q hu _ _ => callV_fn (by kernel_rfl) ?_).mono ?_
  · refine ok_pool_Plan_Put_1 ?_
    unfold V_pool_Plan_Put_1
    have H := (Own.of hu).up1.opSep
    refine ⟨d, H.rd0 rfl, (v_Split u d (by omega)).mono ?_⟩
    rintro _ v ⟨pa, pc, rfl, hsp⟩
    have H := H.add hsp
    have H : Own u Q (X s none 0 [] ++ [At qb (PlnO pb tq fq false), .sl T.«string» 1 pa (pcs d).length pc ((pcs d).map strv)]) v := H
    refine ⟨_, _, _, rfl, fun p u' => ∃ (i : Nat) (s' : PS) (acc : List Int) (a : Option Addr) (c : Nat), p.1 = (i : Int) ∧ i ≤ (pcs d).length ∧ acc.length = i ∧ s'.room ∧ res = ((putR s' ((pcs d).drop i)).1, acc ++ (putR s' ((pcs d).drop i)).2.1, (putR s' ((pcs d).drop i)).2.2) ∧ Own u Q (X s' a c acc ++ [At qb (PlnO pb tq fq false), .sl T.«string» 1 pa (pcs d).length pc ((pcs d).map strv)]) u', fun p _ => (pcs d).length - p.1.toNat, ⟨0, s, [], none, 0, rfl, Nat.zero_le _, rfl, hr, rfl, H⟩, ?_⟩
    rintro _ n v2 ⟨i, s', acc, a, c, hn, hi, hacc, hr', he, H⟩
    have hn : n = (i : Int) := hn
    subst hn
    generalize hbb : decide ((i : Int) < (((pcs d).length : Nat) : Int)) = bb
    refine bcase_mk (fun hlt => ?_) fun hge => ?_
    · have hlt : i < (pcs d).length := by have := of_decide_eq_true (hbb.trans hlt); omega
      obtain ⟨_, hs⟩ := H.has i7
      have hdr : (pcs d).drop i = (pcs d)[i] :: (pcs d).drop (i + 1) := List.drop_eq_getElem_cons hlt
      rw [hdr] at he
      obtain ⟨g, hpa⟩ := hs.2.some (by omega)
      subst hpa
      have hpl := hlen.2.1 _ (List.getElem_mem hlt)
      refine ⟨⟨by omega, by omega⟩, (pcs d)[i], ?_, some ⟨qb, 0, none⟩, H.rd0 rfl, ?_⟩
      · rw [add_mk, Int.toNat_natCast, Nat.mul_one, Nat.zero_add]
        exact (hs.2.cell (by simp [List.getElem?_eq_getElem hlt])).2
      have H2 := H.perm (l' := PQ qb pb tq fq s' ++ [.sl T.«u32» 1 a acc.length c (acc.map u32v), At w.heap.size (.cells ⟨[ptr qb]⟩ T.«p_pool_Plan»), At u0.heap.size (.cells ⟨[.string d]⟩ T.«string»), At u1.heap.size (.cells ⟨[.slice a acc.length c]⟩ T.«l_u32»), .sl T.«string» 1 (some ⟨g, 0, none⟩) (pcs d).length pc ((pcs d).map strv)]) (by
        refine (List.perm_middle (l₁ := X s' a c acc) (a := At qb (PlnO pb tq fq false))).trans (List.Perm.cons _ ?_)
        exact (List.perm_append_comm (l₁ := [_]) (l₂ := [Ded tq s'.L s'.nx, Spc fq s'.f])).append_right _)
      obtain ⟨Q1, hQ1, back1⟩ := H2.three
      refine (q_one hQ1 ((pcs d)[i]) (by omega) hr'.lt).mono ?_
      rintro _ v3 ⟨rfl, h3⟩
      have H := (back1 _ _ _ _ _ h3).front8
      refine ⟨_, _, rfl, bcase_mk (fun hne => ?_) fun hz => ?_⟩
      · have hne : (oneR s' (pcs d)[i]).1.2 ≠ 0 := by simpa using hne
        unfold putR at he
        rw [if_pos hne, List.append_nil] at he
        refine ⟨_, rfl, ?_⟩
        have H : Own u Q (At qb (PlnO pb tq fq false) :: Ded tq _ _ :: Spc fq _ :: .sl T.«u32» 1 a acc.length c (acc.map u32v) :: [At w.heap.size (.cells ⟨[ptr qb]⟩ T.«p_pool_Plan»), At u0.heap.size (.cells ⟨[.string d]⟩ T.«string»), At u1.heap.size (.cells ⟨[.slice a acc.length c]⟩ T.«l_u32»)]) v3 := H.front7
        have H := Own.mkSep (l1 := X (oneR s' (pcs d)[i]).2 a c acc) (l := [At qb (PlnO pb tq fq false)]) (H.up3.perm (by
          exact List.perm_middle (l₁ := [Asrt.sl T.«u32» 1 a acc.length c (acc.map u32v)]) (a := At qb (PlnO pb tq fq false)) |>.trans (List.perm_append_comm (l₁ := [At qb (PlnO pb tq fq false)]) (l₂ := X (oneR s' (pcs d)[i]).2 a c acc))))
        refine (Own.mkPure ?_ (Own.mkEx (a, c) (Own.mkEx acc (Own.mkPure ?_ ?_)))).dn1
        · rw [he]
        · intro h; exact absurd h hne
        · rw [he]; exact H
      · have hz : (oneR s' (pcs d)[i]).1.2 = 0 := by simpa using hz
        unfold putR at he
        rw [if_neg (by simpa using hz)] at he
        refine ⟨_, _, _, H.rd0 rfl, ?_⟩
        have H := H.up3
        refine H.app1 (ty := T.«l_u32») u32Ok (v := .int .u32 (oneR s' (pcs d)[i]).1.1) rfl (fun u hu => by rw [List.mem_singleton.1 hu]; rfl) (by omega) (by omega) fun a2 c2 v4 H => H.st fun v5 H => ?_
        have w1 : IntKind.wrap .i64 ((i : Int) + 1) = ((i + 1 : Nat) : Int) := by rw [wrap64 (by omega) (by omega)]; omega
        rw [w1]
        refine ⟨⟨i + 1, (oneR s' (pcs d)[i]).2, acc ++ [(oneR s' (pcs d)[i]).1.1], a2, c2, rfl, by omega, by simp [hacc], oneR_room hr' _, ?_, ?_⟩, ?_⟩
        · rw [he]; simp
        · have hl1 : ∀ x : Int, (acc ++ [x]).length = acc.length + 1 := fun x => by simp
          have hm1 : ∀ x : Int, (acc ++ [x]).map u32v = acc.map u32v ++ [u32v x] := fun x => by simp
          simp only [X, hl1, hm1]
          have H := H.front8
          refine H.perm ?_
          refine List.Perm.cons _ ?_
          refine (List.perm_middle (l₁ := [Ded tq _ _, Spc fq _, At w.heap.size _, At u0.heap.size _, At u1.heap.size _]) (a := At qb (PlnO pb tq fq false)) (l₂ := [_])).symm
        · show (pcs d).length - ((i + 1 : Nat) : Int).toNat < (pcs d).length - ((i : Nat) : Int).toNat
          omega
    · have hie : i = (pcs d).length := by have := of_decide_eq_false (hbb.trans hge); omega
      rw [hie, List.drop_length] at he
      have he : res = (0, acc ++ [], s') := he
      rw [List.append_nil] at he
      refine ⟨0, rfl, ?_⟩
      have H := Own.mkSep (l1 := X s' a c acc) (l := [At qb (PlnO pb tq fq false)]) (H.front7)
      refine (Own.mkPure ?_ (Own.mkEx (a, c) (Own.mkEx acc (Own.mkPure ?_ ?_)))).dn1
      · rw [he]
      · intro _; rw [he]
      · rw [he]; exact H
  · rintro _ w2 ⟨n, rfl, h2⟩
    have H := back _ _ h2
    obtain ⟨hn, H⟩ := H.up1.opPure
    obtain ⟨⟨a, c⟩, H⟩ := H.opEx
    obtain ⟨ids, H⟩ := H.opEx
    obtain ⟨hids, H⟩ := H.opPure
    have H := H.opSep
    subst hn
    refine ⟨_, rfl, bcase_mk (fun hne => ?_) fun hz => ?_⟩
    · have hne : res.1 ≠ 0 := by simpa using hne
      refine H.st fun v H => ⟨_, _, _, H.rd0 rfl, .inr ⟨hne, rfl, ?_⟩⟩
      have H := H.up6
      rw [show (res.1 != 0) = true by simpa using hne] at H
      exact H.rid1.front3
    · have hz : res.1 = 0 := by simpa using hz
      have hids := hids hz
      refine ⟨_, _, _, H.rd0 rfl, H.st fun v H => ⟨_, _, _, H.rd0 rfl, .inl ⟨hz, a, c, by rw [hids], ?_⟩⟩⟩
      have H := H.up6
      rw [show (res.1 != 0) = false by simp [hz], hids] at H
      exact (H.up1.front4).perm (List.perm_append_comm (l₁ := [_]) (l₂ := [_, _, _]))
end
end Go.Proofs.YtgepmlgkeljelaaGreat.Vc
