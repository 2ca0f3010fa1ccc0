/- Sequences of ids: AppendSeq and Collect over a table, Compact. -/
import Derived.Test.YtgepmlgkeljelaaGreatPoPlan3
namespace Go.Proofs.YtgepmlgkeljelaaGreat.Vc
open Go Go.Proofs

/-- The tail of a row is wiped, and let go. -/
theorem Own.clearTail {P : Program} {t ty e : TypeId} {z : Value} (ht : P.underlying t = some (.slice e)) (hv : ∀ w, (zeroValue e).run P w = .ok z w) (hz : z.cells = #[z]) (h1 : z.oneCell' = true) {W0 w : World} {S0 : Foot} {l : List Asrt} {g n c i : Nat} {xs : List Value}
    (H : Own W0 S0 (.sl e 1 (some ⟨g, 0, none⟩) n c xs :: l) w) (hi : i ≤ n) :
    ∃ u, (Builtin.clear_ ⟨[t]⟩ ty ⟨[.slice (if c = i then some ⟨g, 0, none⟩ else (some (⟨g, 0, none⟩ : Addr)).map (·.add (i * 1))) (n - i) (c - i)]⟩).run P w = .ok (.tuple ⟨[]⟩) u ∧ Own W0 S0 (.sl e 1 (some ⟨g, 0, none⟩) i c (xs.take i) :: l) u := by
  obtain ⟨_, hr⟩ := H.has i0
  have hlen := hr.2.length
  have hle := hr.2.le
  have head : ∀ {xs' : List Value} {u : World}, Own W0 S0 (.sl e 1 (some ⟨g, 0, none⟩) n c xs' :: l) u → xs'.take i = xs.take i → Own W0 S0 (.sl e 1 (some ⟨g, 0, none⟩) i c (xs.take i) :: l) u := fun H hx => H.turn fun S h => ⟨h.1, by
    have := h.2.head hi
    rw [Nat.mul_one, hx] at this; exact this⟩
  by_cases h0 : n - i = 0
  · refine ⟨w, ?_, head H rfl⟩
    rw [h0]
    generalize (if c = i then some (⟨g, 0, none⟩ : Addr) else (some (⟨g, 0, none⟩ : Addr)).map (·.add (i * 1))) = a
    cases a <;> simp [Builtin.clear_, run_underlying ht]
  · have hc : c ≠ i := by omega
    rw [if_neg hc]
    have ha : (some (⟨g, 0, none⟩ : Addr)).map (·.add (i * 1)) = some ⟨g, i, none⟩ := by simp [add_mk]
    rw [ha]
    have hzc : (Builtin.zeroCells z.cells (n - i)).toList = List.replicate (n - i) z := by
      apply List.ext_getElem?
      intro j
      rw [hz]
      simp only [Builtin.zeroCells, Array.toList_map, Array.toList_range]
      by_cases hj : j < n - i
      · simp [hj, Nat.mod_one]
      · rw [List.getElem?_eq_none (by simpa using hj), List.getElem?_eq_none (by simpa using hj)]
    obtain ⟨m, hm⟩ : ∃ m, n - i = m + 1 := ⟨n - i - 1, by omega⟩
    have hst := run_storeCells_cells (P := P) g i (List.replicate (n - i) z) 0 w (fun j hj => by
      have hj : j < n - i := by simpa using hj
      rw [Nat.add_zero, H.rowCell (j := i + j) (List.getElem?_eq_getElem (by omega))]; rfl) (fun j hj => by
      have hj : j < n - i := by simpa using hj
      rw [Nat.add_zero]; exact H.rowFree (by omega)) (fun v hv => by rw [(List.mem_replicate.1 hv).2]; exact h1)
    refine ⟨w.setCells g (i + 0) (List.replicate (n - i) z), ?_, ?_⟩
    · rw [hm] at hst hzc ⊢
      simp only [Builtin.clear_, show (⟨[t]⟩ : Array TypeId)[0]? = some t from rfl, show ∀ x : Value, (⟨[x]⟩ : Array Value)[0]? = some x from fun _ => rfl, Sem.run_bind, run_underlying ht, Result.andThen, hv, hzc, hst]
      rfl
    · have H2 := Own.setCells (j := i) (vs := List.replicate (n - i) z) H (by rw [List.length_replicate]; omega)
      refine head H2 ?_
      have e : xs = xs.take i ++ xs.drop i ++ [] := by simp
      conv => lhs; rw [e]
      have hp := putL_mid (List.replicate (n - i) z) (xs.drop i) (xs.take i) [] (by simp; omega)
      rw [List.length_take, Nat.min_eq_left (by omega)] at hp
      rw [hp]
      simp [List.take_append_of_le_length, Nat.min_eq_left (show i ≤ xs.length by omega)]

def cmpR : List Int → List Int
  | [] => []
  | x :: r => match cmpR r with
    | [] => [x]
    | y :: k => if x = y then y :: k else x :: y :: k

theorem cmpR_mem (x : Int) : ∀ l : List Int, x ∈ cmpR l ↔ x ∈ l
  | [] => Iff.rfl
  | y :: r => by
    have ih := cmpR_mem x r
    unfold cmpR
    cases h : cmpR r with
    | nil => rw [h] at ih; simp only [List.mem_cons, List.not_mem_nil, or_false, false_iff] at *; simp [ih]
    | cons z k =>
      rw [h] at ih
      simp only
      split
      · rename_i e; subst e; rw [ih, List.mem_cons, ← ih]; simp
      · rw [List.mem_cons, ih, List.mem_cons]
theorem cmpR_sorted : ∀ l : List Int, l.Pairwise (· ≤ ·) → (cmpR l).Pairwise (· < ·)
  | [], _ => .nil
  | x :: r, h => by
    obtain ⟨h1, h2⟩ := List.pairwise_cons.1 h
    have ih := cmpR_sorted r h2
    unfold cmpR
    cases hc : cmpR r with
    | nil => simp
    | cons y k =>
      rw [hc] at ih
      simp only
      split
      · exact ih
      · rename_i hne
        have hy : x ≤ y := h1 y ((cmpR_mem y r).1 (by rw [hc]; simp))
        refine List.pairwise_cons.2 ⟨fun z hz => ?_, ih⟩
        rcases List.mem_cons.1 hz with rfl | hz
        · omega
        · have := (List.pairwise_cons.1 ih).1 z hz; omega
/-- One more behind: it is there already, or it is added. -/
theorem cmpR_snoc : ∀ (l : List Int) (x y : Int), cmpR (l ++ [x] ++ [y]) = if x = y then cmpR (l ++ [x]) else cmpR (l ++ [x]) ++ [y]
  | [], x, y => by
    show (match cmpR [y] with | [] => [x] | z :: k => if x = z then z :: k else x :: z :: k) = _
    show (if x = y then [y] else [x, y]) = _
    split <;> simp_all [cmpR]
  | a :: l, x, y => by
    have ih := cmpR_snoc l x y
    show (match cmpR (l ++ [x] ++ [y]) with | [] => [a] | z :: k => if a = z then z :: k else a :: z :: k) = if x = y then (match cmpR (l ++ [x]) with | [] => [a] | z :: k => if a = z then z :: k else a :: z :: k) else (match cmpR (l ++ [x]) with | [] => [a] | z :: k => if a = z then z :: k else a :: z :: k) ++ [y]
    rw [ih]
    have hne : cmpR (l ++ [x]) ≠ [] := fun h => by
      have := (cmpR_mem x (l ++ [x])).2 (by simp)
      rw [h] at this; cases this
    by_cases e : x = y
    · rw [if_pos e, if_pos e]
    · rw [if_neg e, if_neg e]
      cases h : cmpR (l ++ [x]) with
      | nil => exact absurd h hne
      | cons z k =>
        show (if a = z then z :: (k ++ [y]) else a :: z :: (k ++ [y])) = (if a = z then z :: k else a :: z :: k) ++ [y]
        split <;> rfl
theorem cmpR_id : ∀ l : List Int, (∀ i x, l[i]? = some x → ∀ y, l[i + 1]? = some y → x ≠ y) → cmpR l = l
  | [], _ => rfl
  | [x], _ => rfl
  | x :: y :: r, h => by
    have ih := cmpR_id (y :: r) fun i a ha b hb => h (i + 1) a (by simpa using ha) b (by simpa using hb)
    unfold cmpR
    rw [ih]
    simp only
    rw [if_neg (h 0 x rfl y rfl)]

section
variable {w : World} {S : Foot}

theorem s_Compact {a : Option Addr} {c : Nat} {ids : List Int} (h : (Asrt.sl T.«u32» 1 a ids.length c (ids.map u32v)).on w S) (hl : ids.length ≤ 1000000) :
    Calls P F.«slices_Compact_sl_uint32_uint32» ⟨[.slice a ids.length c]⟩ w fun e w' => e = .returned (.slice a (cmpR ids).length c) ∧ Own w S [.sl T.«u32» 1 a (cmpR ids).length c ((cmpR ids).map u32v)] w' := by
  refine ok_slices_Compact_sl_uint32_uint32 ?_
  unfold V_slices_Compact_sl_uint32_uint32
  generalize hb0 : decide (((ids.length : Nat) : Int) < 2) = b0
  have H := Own.of1 h
  refine bcase_mk (fun hs => ?_) fun hs => ?_
  · have hs : ids.length < 2 := by have := of_decide_eq_true (hb0.trans hs); omega
    have e : cmpR ids = ids := cmpR_id ids fun i x hx y hy => by
      have := (List.getElem?_eq_some_iff.1 hy).1; omega
    rw [e]; exact ⟨rfl, H⟩
  have hs : 2 ≤ ids.length := by have := of_decide_eq_false (hb0.trans hs); omega
  obtain ⟨g, rfl⟩ := h.2.some (by omega)
  have rd : ∀ {v : World} {xs : List Int} {n c : Nat} {l : List Asrt} (k : Nat) (x : Int), Own w S (.sl T.«u32» 1 (some ⟨g, 0, none⟩) n c (xs.map u32v) :: l) v → xs[k]? = some x → v.cell? (⟨g, k, none⟩ : Addr) = some (u32v x) := fun k x H hk => H.rowCell (by simp [hk])
  have gi : ∀ k (hk : k < ids.length), ids[k]? = some ids[k] := fun k hk => List.getElem?_eq_getElem hk
  refine ⟨fun p u => ∃ k : Nat, p.1 = (k : Int) ∧ 1 ≤ k ∧ k ≤ ids.length ∧ (∀ i x, i + 1 < k → ids[i]? = some x → ∀ y, ids[i + 1]? = some y → x ≠ y) ∧ Own w S [.sl T.«u32» 1 (some ⟨g, 0, none⟩) ids.length c (ids.map u32v)] u, fun p _ => ids.length - p.1.toNat, ⟨1, rfl, Nat.le_refl _, by omega, fun i x hi => by omega, H⟩, ?_⟩
  rintro _ n u ⟨k, hn, hk1, hk2, hne, H⟩
  have hn : n = (k : Int) := hn
  subst hn
  generalize hb1 : decide ((k : Int) < ((ids.length : Nat) : Int)) = b1
  refine bcase_mk (fun hlt => ?_) fun hge => ?_
  rotate_left
  · have hk : k = ids.length := by have := of_decide_eq_false (hb1.trans hge); omega
    subst hk
    have e : cmpR ids = ids := cmpR_id ids fun i x hx y hy => hne i x (List.getElem?_eq_some_iff.1 hy).1 hx y hy
    rw [e]; exact ⟨rfl, H⟩
  have hlt : k < ids.length := by have := of_decide_eq_true (hb1.trans hlt); omega
  have w1 : IntKind.wrap .i64 ((k : Int) - 1) = ((k - 1 : Nat) : Int) := by rw [wrap64 (by omega) (by omega)]; omega
  rw [w1]
  refine ⟨⟨by omega, by omega⟩, ids[k], ?_, ⟨by omega, by omega⟩, ids[k - 1], ?_, fun wd hd => ?_⟩
  · rw [add_mk, Int.toNat_natCast, Nat.mul_one, Nat.zero_add]; exact rd k _ H (gi k hlt)
  · rw [add_mk, Int.toNat_natCast, Nat.mul_one, Nat.zero_add]; exact rd (k - 1) _ H (gi (k - 1) (by omega))
  have H := H.drew hd
  have wk : IntKind.wrap .i64 ((k : Int) + 1) = ((k + 1 : Nat) : Int) := by rw [wrap64 (by omega) (by omega)]; omega
  generalize hb2 : (ids[k] == ids[k - 1]) = b2
  refine bcase_mk (fun heq => ?_) fun hnq => ?_
  rotate_left
  · rw [wk]
    refine ⟨⟨k + 1, rfl, by omega, by omega, fun i x hi hx y hy => ?_, H⟩, by show ids.length - ((k + 1 : Nat) : Int).toNat < ids.length - ((k : Nat) : Int).toNat; omega⟩
    by_cases hik : i + 1 < k
    · exact hne i x hik hx y hy
    · have : i + 1 = k := by omega
      subst this
      have h1 := gi (i + 1) hlt
      have h2 := gi i (by omega)
      rw [h1] at hy; rw [h2] at hx
      cases hx; cases hy
      intro he
      have : (ids[i + 1] == ids[i]) = true := by rw [he]; simp
      have h3 : (ids[i + 1] == ids[i + 1 - 1]) = true := this
      rw [hb2] at h3; rw [h3] at hnq; cases hnq
  have heq : ids[k] = ids[k - 1] := by rw [heq] at hb2; simpa using hb2
  refine ⟨⟨by omega, by omega, by exact_mod_cast h.2.le, Int.le_refl _⟩, fun p u => ∃ (i j : Nat) (xs : List Int), p.1 = (i : Int) ∧ p.2.1 = (j : Int) ∧ 1 ≤ j ∧ k + j ≤ ids.length ∧ i + 1 ≤ k + j ∧ xs.length = ids.length ∧ xs.take i = cmpR (ids.take (k + j)) ∧ xs.drop (k + j - 1) = ids.drop (k + j - 1) ∧ Own w S [.sl T.«u32» 1 (some ⟨g, 0, none⟩) ids.length c (xs.map u32v)] u, fun p _ => ids.length - p.2.1.toNat, ⟨k, 1, ids, rfl, rfl, Nat.le_refl _, by omega, by omega, rfl, ?_, rfl, H⟩, ?_⟩
  · have e1 : ids.take (k + 1) = (ids.take (k - 1) ++ [ids[k - 1]]) ++ [ids[k]] := by
      rw [List.take_succ_eq_append_getElem hlt]
      congr 1
      have := List.take_succ_eq_append_getElem (l := ids) (i := k - 1) (by omega)
      rwa [show k - 1 + 1 = k by omega] at this
    rw [e1, cmpR_snoc, if_pos heq.symm]
    have e2 : ids.take (k - 1) ++ [ids[k - 1]] = ids.take k := by
      have := List.take_succ_eq_append_getElem (l := ids) (i := k - 1) (by omega)
      rwa [show k - 1 + 1 = k by omega, eq_comm] at this
    rw [e2]
    refine (cmpR_id _ fun i x hx y hy => ?_).symm
    have hi := (List.getElem?_eq_some_iff.1 hy).1
    rw [List.length_take] at hi
    rw [List.getElem?_take_of_lt (by omega)] at hx hy
    exact hne i x (by omega) hx y hy
  rintro _ n1 n2 v ⟨i, j, xs, h1, h2, hj1, hj2, hij, hxl, hxt, hxd, H⟩
  have h1 : n1 = (i : Int) := h1
  have h2 : n2 = (j : Int) := h2
  subst h1 h2
  rw [Int.toNat_natCast, Int.toNat_natCast]
  generalize hb3 : decide ((j : Int) < ((ids.length - k : Nat) : Int)) = b3
  refine bcase_mk (fun hlt3 => ?_) fun hge3 => ?_
  · have hlt3 : j < ids.length - k := by have := of_decide_eq_true (hb3.trans hlt3); omega
    have w2 : IntKind.wrap .i64 ((j : Int) - 1) = ((j - 1 : Nat) : Int) := by rw [wrap64 (by omega) (by omega)]; omega
    have w3 : IntKind.wrap .i64 ((j : Int) + 1) = ((j + 1 : Nat) : Int) := by rw [wrap64 (by omega) (by omega)]; omega
    have w4 : IntKind.wrap .i64 ((i : Int) + 1) = ((i + 1 : Nat) : Int) := by rw [wrap64 (by omega) (by omega)]; omega
    have hck : c ≠ k := by have := h.2.le; omega
    have ha : (if ((c : Nat) : Int).toNat = k then some (⟨g, 0, none⟩ : Addr) else (some (⟨g, 0, none⟩ : Addr)).map (·.add (k * 1))) = some ⟨g, k, none⟩ := by rw [Int.toNat_natCast, if_neg hck]; simp [add_mk]
    rw [ha, w2, w3, w4]
    have xd : ∀ m, k + j - 1 ≤ m → xs[m]? = ids[m]? := fun m hm => by
      have := congrArg (fun l => l[m - (k + j - 1)]?) hxd
      simp only [List.getElem?_drop] at this
      rwa [show k + j - 1 + (m - (k + j - 1)) = m by omega] at this
    have x1 : xs[k + j]? = some ids[k + j] := (xd _ (by omega)).trans (gi _ (by omega))
    have x2 : xs[k + j - 1]? = some ids[k + j - 1] := (xd _ (Nat.le_refl _)).trans (gi _ (by omega))
    have e1 : ids.take (k + (j + 1)) = (ids.take (k + j - 1) ++ [ids[k + j - 1]]) ++ [ids[k + j]] := by
      rw [show k + (j + 1) = k + j + 1 by omega, List.take_succ_eq_append_getElem (by omega)]
      congr 1
      have := List.take_succ_eq_append_getElem (l := ids) (i := k + j - 1) (by omega)
      rwa [show k + j - 1 + 1 = k + j by omega] at this
    have e2 : ids.take (k + j - 1) ++ [ids[k + j - 1]] = ids.take (k + j) := by
      have := List.take_succ_eq_append_getElem (l := ids) (i := k + j - 1) (by omega)
      rwa [show k + j - 1 + 1 = k + j by omega, eq_comm] at this
    have dec : ids.length - ((j + 1 : Nat) : Int).toNat < ids.length - ((j : Nat) : Int).toNat := by omega
    have xd1 : ∀ ys : List Int, (∀ m, k + j ≤ m → ys[m]? = xs[m]?) → ys.drop (k + (j + 1) - 1) = ids.drop (k + (j + 1) - 1) := fun ys hy => by
      apply List.ext_getElem?
      intro m
      rw [List.getElem?_drop, List.getElem?_drop, hy _ (by omega), xd _ (by omega)]
    refine ⟨⟨by omega, by omega⟩, ids[k + j], ?_, ⟨by omega, by omega⟩, ids[k + j - 1], ?_, fun wd2 hd2 => ?_⟩
    · rw [add_mk, Int.toNat_natCast, Nat.mul_one]; exact rd _ _ H x1
    · rw [add_mk, Int.toNat_natCast, Nat.mul_one, show k + (j - 1) = k + j - 1 by omega]; exact rd _ _ H x2
    have H := H.drew hd2
    generalize hb4 : (ids[k + j] != ids[k + j - 1]) = b4
    refine bcase_mk (fun hq => ?_) fun hq => ?_
    · have hq : ids[k + j] ≠ ids[k + j - 1] := by rw [hq] at hb4; simpa using hb4
      refine ⟨⟨by omega, by omega⟩, ids[k + j], ?_, ⟨by omega, by omega⟩, ?_⟩
      · rw [add_mk, Int.toNat_natCast, Nat.mul_one]; exact rd _ _ H x1
      show (∃ old, wd2.cell? (((⟨g, 0, none⟩ : Addr).add ((i : Int).toNat * 1)).add 0) = some old) ∧ wd2.frozen? (((⟨g, 0, none⟩ : Addr).add ((i : Int).toNat * 1)).add 0) = false ∧ _
      rw [add_mk, add_mk, Int.toNat_natCast, Nat.mul_one, Nat.zero_add, Nat.add_zero]
      have hil : i < xs.length := by omega
      refine Own.setRow H (by rw [List.length_map]; exact hil) fun v2 H => ⟨⟨i + 1, j + 1, xs.set i ids[k + j], rfl, rfl, by omega, by omega, by omega, by rw [List.length_set]; exact hxl, ?_, ?_, ?_⟩, dec⟩
      · rw [e1, cmpR_snoc, if_neg (fun h => hq h.symm), e2, ← hxt, List.take_succ_eq_append_getElem (by rw [List.length_set]; exact hil), List.take_set_of_le (Nat.le_refl _), List.getElem_set_self]
      · exact xd1 _ fun m hm => List.getElem?_set_ne (by omega)
      · rw [← List.map_set] at H; exact H
    · have hq : ids[k + j] = ids[k + j - 1] := by rw [hq] at hb4; simpa using hb4
      refine ⟨⟨i, j + 1, xs, rfl, rfl, by omega, by omega, by omega, hxl, ?_, xd1 _ fun _ _ => rfl, H⟩, dec⟩
      rw [e1, cmpR_snoc, if_pos hq.symm, e2]; exact hxt
  · have hje : k + j = ids.length := by have := of_decide_eq_false (hb3.trans hge3); omega
    have hxt : xs.take i = cmpR ids := by rw [hxt, hje, List.take_length]
    have hil : i ≤ ids.length := by omega
    obtain ⟨v2, hr, H2⟩ := H.clearTail (P := P) (t := T.«l_u32») (ty := T.«tup_») Tryz.underlying51 Tryz.zeroValue48 rfl rfl hil
    have hcl : (cmpR ids).length = i := by rw [← hxt, List.length_take, hxl]; omega
    refine ⟨⟨by omega, by omega, by exact_mod_cast h.2.le, Int.le_refl _⟩, v2, hr, ⟨by omega, by omega, by have := h.2.le; omega, Int.le_refl _⟩, ?_, ?_⟩
    · rw [hcl]
      have hc0 : ((c : Nat) : Int).toNat ≠ (0 : Int).toNat := by have := h.2.le; show c ≠ 0; omega
      rw [if_neg hc0]
      simp [add_mk]
    · rw [hcl, ← hxt, List.map_take]; exact H2
end
end Go.Proofs.YtgepmlgkeljelaaGreat.Vc
