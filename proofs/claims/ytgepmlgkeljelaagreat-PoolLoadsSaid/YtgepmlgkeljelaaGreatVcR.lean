/- Slices in memory: rows of cells, appends. -/
import Derived.Test.YtgepmlgkeljelaaGreatVcM
import Derived.Great.BuildSlice
namespace Go.Proofs.YtgepmlgkeljelaaGreat.Vc
open Go

theorem wrap64 {n : Int} (h1 : -9223372036854775808 ≤ n) (h2 : n ≤ 9223372036854775807) : IntKind.wrap .i64 n = n := by
  show (if true && decide (n % 18446744073709551616 ≥ 9223372036854775808) then n % 18446744073709551616 - 18446744073709551616 else n % 18446744073709551616) = n
  simp only [Bool.true_and, decide_eq_true_eq]
  split <;> omega
theorem wrapU32 {n : Int} (h1 : 0 ≤ n) (h2 : n < 4294967296) : IntKind.wrap .u32 n = n := by
  show (if false && decide (n % 4294967296 ≥ 2147483648) then n % 4294967296 - 4294967296 else n % 4294967296) = n
  simp only [Bool.false_and, Bool.false_eq_true, if_false]
  omega
theorem wrapU8 {n : Int} (h1 : 0 ≤ n) (h2 : n < 256) : IntKind.wrap .u8 n = n := by
  show (if false && decide (n % 256 ≥ 128) then n % 256 - 256 else n % 256) = n
  simp only [Bool.false_and, Bool.false_eq_true, if_false]
  omega

/-- A slice that has its row to itself: its cells are xs. -/
def Sl (w : World) (e : TypeId) (sz : Nat) (a : Option Addr) (n c : Nat) (xs : List Value) : Prop := w.ownsRow 0 e sz (.slice a n c) n xs
/-- The block of a slice's row. -/
def Blk (a : Option Addr) (g : Nat) : Prop := ∃ x, a = some x ∧ x.block = g

theorem Blk.mk (g o : Nat) : Blk (some ⟨g, o, none⟩) g := ⟨_, rfl, rfl⟩
theorem Blk.none {g : Nat} : ¬ Blk none g := fun ⟨_, h, _⟩ => by cases h
theorem Blk.eq {g g' o : Nat} (h : Blk (some ⟨g, o, .none⟩) g') : g' = g := by obtain ⟨_, h, rfl⟩ := h; cases h; rfl
theorem ownBlock_iff {a : Option Addr} {n c g : Nat} : (Value.slice a n c).ownBlock = some g ↔ Blk a g := by
  cases a with
  | none => simp [Value.ownBlock, Blk]
  | some x => simp [Value.ownBlock, Blk]

namespace Sl
variable {w u : World} {e : TypeId} {sz n c : Nat} {a : Option Addr} {xs : List Value}

theorem nil (w : World) (e : TypeId) (sz : Nat) : Sl w e sz none 0 0 [] := World.ownsRow_nil w 0 e sz
theorem length (h : Sl w e sz a n c xs) : xs.length = n * sz := h.1
theorem cases' (h : Sl w e sz a n c xs) : (a = none ∧ n = 0 ∧ c = 0 ∧ xs = []) ∨
    ∃ g cur, a = some ⟨g, 0, none⟩ ∧ w.heap[g]? = some (.cells cur e) ∧ n ≤ c ∧ c ≤ maxLen ∧ cur.size = c * sz ∧ cur.toList.take (n * sz) = xs := by
  rcases h.2 with ⟨h1, rfl⟩ | ⟨g, cap, cur, h1, _, h2, h3, h4, h5, h6⟩
  · cases h1
    exact .inl ⟨rfl, rfl, rfl, List.eq_nil_of_length_eq_zero (by simpa using h.1)⟩
  · cases h1
    exact .inr ⟨g, cur, rfl, h2, h3, h4, h5, h6⟩
theorem mk' {g : Nat} {cur : Array Value} (hg : w.heap[g]? = some (.cells cur e)) (h1 : n ≤ c) (h2 : c ≤ maxLen) (h3 : cur.size = c * sz) : Sl w e sz (some ⟨g, 0, none⟩) n c (cur.toList.take (n * sz)) :=
  ⟨by simp only [List.length_take, Array.length_toList, h3]; exact Nat.min_eq_left (Nat.mul_le_mul_right _ h1), .inr ⟨g, c, cur, rfl, Nat.zero_le _, hg, h1, h2, h3, rfl⟩⟩
theorem le (h : Sl w e sz a n c xs) : n ≤ c := by rcases h.cases' with ⟨_, rfl, rfl, _⟩ | ⟨_, _, _, _, h, _⟩ <;> omega
theorem cap_le (h : Sl w e sz a n c xs) : c ≤ maxLen := by rcases h.cases' with ⟨_, _, rfl, _⟩ | ⟨_, _, _, _, _, h, _⟩ <;> omega
theorem some (h : Sl w e sz a n c xs) (h0 : 0 < n) : ∃ g, a = .some ⟨g, 0, .none⟩ := by
  rcases h.cases' with ⟨_, rfl, _, _⟩ | ⟨g, _, h, _⟩
  · omega
  · exact ⟨g, h⟩
theorem cell {g o : Nat} (h : Sl w e sz (.some ⟨g, o, .none⟩) n c xs) {j : Nat} {v : Value} (hj : xs[j]? = .some v) : o = 0 ∧ w.cell? (⟨g, j, .none⟩ : Addr) = .some v := by
  rcases h.cases' with ⟨h1, _⟩ | ⟨g', cur, h1, h2, h3, h4, h5, h6⟩
  · cases h1
  · cases h1
    refine ⟨rfl, cell_at0 h2 ?_⟩
    rw [← h6, List.getElem?_take] at hj
    split at hj
    · simpa using hj
    · cases hj
theorem lt (h : Sl w e sz a n c xs) {g : Nat} (hb : Blk a g) : g < w.heap.size := by
  rcases h.cases' with ⟨rfl, _⟩ | ⟨g', cur, rfl, h2, _⟩
  · exact absurd hb Blk.none
  · rw [hb.eq]; exact lt_of_at h2
theorem type (h : Sl w e sz a n c xs) {g : Nat} (hb : Blk a g) : ∃ cur, w.heap[g]? = .some (.cells cur e) := by
  rcases h.cases' with ⟨rfl, _⟩ | ⟨g', cur, rfl, h2, _⟩
  · exact absurd hb Blk.none
  · rw [hb.eq]; exact ⟨_, h2⟩
theorem same (h : Sl w e sz a n c xs) (hs : ∀ g, Blk a g → u.heap[g]? = w.heap[g]?) : Sl u e sz a n c xs := by
  rcases h.cases' with ⟨rfl, rfl, rfl, rfl⟩ | ⟨g', cur, rfl, h2, h3, h4, h5, h6⟩
  · exact nil _ _ _
  · subst h6; exact mk' ((hs g' (Blk.mk _ _)).trans h2) h3 h4 h5
theorem keep {S : Nat → Prop} (h : Sl w e sz a n c xs) (hk : Keep S w u) (hs : ∀ g, Blk a g → ¬ S g) : Sl u e sz a n c xs :=
  h.same fun g hg => hk.block g (h.lt hg) (hs g hg)
end Sl

/-- What may be appended: m elements that are read at x. -/
def Src (w : World) (sz : Nat) (x : Option Addr) (m c : Nat) (news : List Value) : Prop :=
  news.length = m * sz ∧ ((x = none ∧ m = 0 ∧ c = 0) ∨ ∃ a, x = some a ∧ ∀ j u, news[j]? = some u → w.cell? (a.add j) = some u)

/-- The types' facts that an append needs. -/
structure ElemOk (P : Program) (t e : TypeId) (sz bytes : Nat) : Prop where
  und : P.underlying t = some (.slice e)
  info : ∃ i z, P.info? e = some i ∧ i.zero = some z ∧ i.size = sz ∧ i.bytes = bytes ∧ z.cells.size = sz
  pos : 0 < sz

theorem infoOk {P : Program} {e : TypeId} {sz bytes : Nat} {z : Value} (h : (P.info? e).map (fun i => (i.zero, i.size, i.bytes)) = some (some z, sz, bytes)) (hz : z.cells.size = sz) : ∃ i z, P.info? e = some i ∧ i.zero = some z ∧ i.size = sz ∧ i.bytes = bytes ∧ z.cells.size = sz := by
  cases hi : P.info? e with
  | none => rw [hi] at h; cases h
  | some i =>
    rw [hi] at h
    simp only [Option.map_some, Option.some.injEq, Prod.mk.injEq] at h
    exact ⟨i, z, rfl, h.1, h.2.1, h.2.2, hz⟩

/-- APPEND TO A ROW OF ONE's OWN. -/
theorem append_own {P : Program} {w : World} {t ty e : TypeId} {sz bytes : Nat} (E : ElemOk P t e sz bytes) {a x : Option Addr} {n c m cx : Nat} {xs news : List Value} (h : Sl w e sz a n c xs) (hx : Src w sz x m cx news)
    (h1 : ∀ u ∈ news, u.oneCell' = true) (hb : (n + m) * (bytes + 1) ≤ 140737488355328) :
    ∃ a' c' w', (Builtin.append_ ⟨[t, t]⟩ ty ⟨[.slice a n c, .slice x m cx]⟩).run P w = .ok (.slice a' (n + m) c') w' ∧ Sl w' e sz a' (n + m) c' (xs ++ news) ∧ Keep (Blk a) w w' ∧ (∀ g, Blk a' g → Blk a g ∨ w.heap.size ≤ g) := by
  obtain ⟨ht, ⟨i, z, hi, hz, hsz, hby, hzs⟩, hpos⟩ := E
  rcases hx with ⟨hl, ⟨rfl, rfl, rfl⟩ | ⟨ad, rfl, hr⟩⟩
  · have : news = [] := List.eq_nil_of_length_eq_zero (by simpa using hl)
    subst this
    refine ⟨a, c, w, run_append_owned_none w 0 t ty e i sz ht hi _ n xs h, by simpa using h, Keep.refl _ _, fun g hg => .inl hg⟩
  · have hb1 : (n + m) * bytes ≤ 140737488355328 := Nat.le_trans (Nat.mul_le_mul_left _ (Nat.le_succ _)) hb
    have hm : n + m ≤ maxLen := by
      have : (n + m) * 1 ≤ (n + m) * (bytes + 1) := Nat.mul_le_mul_left _ (by omega)
      simp only [maxLen]; omega
    obtain ⟨v', w', r1, r2, r3, r4⟩ := run_append_own (P := P) w 0 t ty e i z sz bytes ht hi hz hsz hby hzs hpos _ n xs h ad m cx news hl hr h1 hm hb1 (Nat.zero_le _)
    have form : ∃ a' c', v' = .slice a' (n + m) c' := by
      rcases r2.2 with ⟨hv, hn⟩ | ⟨g, cap, cur, hv, _⟩
      · exact ⟨none, 0, by rw [hv, hn]⟩
      · exact ⟨_, _, hv⟩
    obtain ⟨a', c', rfl⟩ := form
    have hk : Keep (Blk a) w w' := (Keep.grown r3).mono fun b _ hb => ownBlock_iff.1 hb
    refine ⟨a', c', w', r1, r2, hk, fun g hg => ?_⟩
    -- a block that is neither the old row's nor new would have been laid anew: its row is as long as the new one; so it is one of these
    by_cases hge : w.heap.size ≤ g
    · exact .inr hge
    · left
      exact ownsRow_block ht hi hz hsz hby hzs hpos h hl hr h1 hm hb1 r1 hg (by omega)
where
  ownsRow_block {P : Program} {w w' : World} {t ty e : TypeId} {i : TypeInfo} {z : Value} {sz bytes : Nat} (ht : P.underlying t = some (.slice e)) (hi : P.info? e = some i) (hz : i.zero = some z) (hsz : i.size = sz) (hby : i.bytes = bytes) (hzs : z.cells.size = sz) (hpos : 0 < sz)
      {a a' : Option Addr} {ad : Addr} {n c m cx c' : Nat} {xs news : List Value} (h : Sl w e sz a n c xs) (hl : news.length = m * sz) (hr : ∀ j u, news[j]? = some u → w.cell? (ad.add j) = some u) (h1 : ∀ u ∈ news, u.oneCell' = true) (hm : n + m ≤ maxLen) (hb1 : (n + m) * bytes ≤ 140737488355328)
      (r1 : (Builtin.append_ ⟨[t, t]⟩ ty ⟨[.slice a n c, .slice (some ad) m cx]⟩).run P w = .ok (.slice a' (n + m) c') w') {g : Nat} (hg : Blk a' g) (hlt : g < w.heap.size) : Blk a g := by
    subst hsz hby
    rcases h.cases' with ⟨rfl, rfl, rfl, rfl⟩ | ⟨g0, cur, rfl, h2, h3, h4, h5, h6⟩
    · by_cases hm0 : m = 0
      · subst hm0
        have r0 : (Builtin.append_ #[t, t] ty #[.slice none 0 0, .slice (some ad) 0 cx]).run P w = .ok (.slice none 0 0) w := by
          simp [Builtin.append_, run_underlying ht, sizeOf, typeInfo, hi, Builtin.lenOf, Builtin.firstCells, loadCells, loadCellsFrom]
        rw [show (⟨[t, t]⟩ : Array TypeId) = #[t, t] from rfl, show (⟨[.slice none 0 0, .slice (some ad) 0 cx]⟩ : Array Value) = #[.slice none 0 0, .slice (some ad) 0 cx] from rfl, r0] at r1
        cases r1
        exact absurd hg Blk.none
      · have r0 := run_append_nil (P := P) w t ty e i z ht hi hz ad m cx news hl hr (by omega) (by simp only [maxLen] at hm; omega) (by rw [Nat.zero_add] at hb1; omega)
        rw [show (⟨[t, t]⟩ : Array TypeId) = #[t, t] from rfl, show (⟨[.slice none 0 0, .slice (some ad) m cx]⟩ : Array Value) = #[.slice none 0 0, .slice (some ad) m cx] from rfl, r0] at r1
        simp only [Result.ok.injEq, Value.slice.injEq] at r1
        obtain ⟨⟨rfl, _, _⟩, _⟩ := r1
        have := hg.eq; omega
    · by_cases hroom : n + m ≤ c
      · have hfit : n * i.size + news.length ≤ cur.size := by rw [hl, h5, ← Nat.add_mul]; exact Nat.mul_le_mul_right _ hroom
        have r0 := run_append_room (P := P) w t ty e i ht hi g0 n c cur h2 ad m cx news hl hr h1 hroom hfit
        rw [show (⟨[t, t]⟩ : Array TypeId) = #[t, t] from rfl, show (⟨[.slice (some ⟨g0, 0, none⟩) n c, .slice (some ad) m cx]⟩ : Array Value) = #[.slice (some ⟨g0, 0, none⟩) n c, .slice (some ad) m cx] from rfl, r0] at r1
        cases r1
        exact hg.eq ▸ Blk.mk _ _
      · have holds : ∀ j u, xs[j]? = some u → w.cell? ((⟨g0, 0, none⟩ : Addr).add j) = some u := fun j u hj => by rw [add_mk]; simpa using (h.cell hj).2
        have r0 := run_append_grow (P := P) w t ty e i z ht hi hz ⟨g0, 0, none⟩ n c xs h.1 holds ad m cx news hl hr (by omega) (by simp only [maxLen] at hm; omega) (growslice_fits (by omega) hb1)
        rw [show (⟨[t, t]⟩ : Array TypeId) = #[t, t] from rfl, show (⟨[.slice (some ⟨g0, 0, none⟩) n c, .slice (some ad) m cx]⟩ : Array Value) = #[.slice (some ⟨g0, 0, none⟩) n c, .slice (some ad) m cx] from rfl, r0] at r1
        cases r1
        have := hg.eq; omega

/-- A literal of one element. -/
theorem buildSlice_one {P : Program} {w : World} {t e : TypeId} {sz bytes : Nat} (E : ElemOk P t e sz bytes) (v : Value) (hv : v.cells.size = sz) (hs : sz ≤ 1000) :
    ∃ w', (Instr.buildSlice t 1 ⟨[(0, v)]⟩).run P w = .ok (.slice (some ⟨w.heap.size, 0, none⟩) 1 1) w' ∧ New w (.cells v.cells e) w' := by
  obtain ⟨ht, ⟨i, z, hi, hz, hsz, hby, hzs⟩, hpos⟩ := E
  refine ⟨w.alloc (.cells v.cells e), ?_, New.mk' _ _⟩
  have hfill : Instr.fill (fun i => some (i * sz, sz)) ((Array.range (1 * sz)).map (z.cells[· % z.cells.size]!)) [(0, v)] = some v.cells := by
    have key : ∀ (l : List Value) (pre : List Value) (cs : List Value), cs.length = l.length →
        (l.zipIdx pre.length).foldl (fun (cs : Array Value) (p : Value × Nat) => cs.setIfInBounds (0 * sz + p.2) p.1) ⟨pre ++ cs⟩ = ⟨pre ++ l⟩ := by
      intro l
      induction l with
      | nil => intro pre cs h; have := List.eq_nil_of_length_eq_zero h; subst this; rfl
      | cons x l ih =>
        intro pre cs h
        cases cs with
        | nil => cases h
        | cons y cs =>
          rw [List.zipIdx_cons, List.foldl_cons]
          have e1 : (⟨pre ++ y :: cs⟩ : Array Value).setIfInBounds (0 * sz + pre.length) x = ⟨(pre ++ [x]) ++ cs⟩ := by
            apply Array.toList_inj.1
            simp
          rw [e1, show pre.length + 1 = (pre ++ [x]).length by simp, ih (pre ++ [x]) cs (by simpa using h)]
          simp
    have hsize : ((Array.range (1 * sz)).map (z.cells[· % z.cells.size]!)).size = sz := by simp
    have hno : ¬ (v.cells.size ≠ sz ∨ 0 * sz + v.cells.size > ((Array.range (1 * sz)).map (z.cells[· % z.cells.size]!)).size) := by rw [hsize, hv]; omega
    simp only [Instr.fill]
    rw [if_neg (by rw [← Bool.decide_or, decide_eq_true_eq]; exact hno)]
    have := key v.cells.toList [] ((Array.range (1 * sz)).map (z.cells[· % z.cells.size]!)).toList (by simp [hv])
    simp only [List.nil_append, List.length_nil] at this
    rw [← Array.foldl_toList, Array.toList_zipIdx]
    exact congrArg some this
  subst hsz
  exact run_buildSlice w t e 1 _ _ i z ht hi hz (by omega) (by omega) hfill
/-- A part of a row, as what is appended. -/
theorem Sl.src {w : World} {e : TypeId} {sz n c : Nat} {a : Option Addr} {xs : List Value} (h : Sl w e sz a n c xs) {lo hi : Nat} (h1 : lo ≤ hi) (h2 : hi ≤ n) :
    Src w sz (if c = lo then a else a.map (·.add (lo * sz))) (hi - lo) (c - lo) ((xs.drop (lo * sz)).take ((hi - lo) * sz)) := by
  have hm : hi * sz ≤ n * sz := Nat.mul_le_mul_right _ h2
  have hs : (hi - lo) * sz = hi * sz - lo * sz := Nat.sub_mul ..
  have hl : lo * sz ≤ hi * sz := Nat.mul_le_mul_right _ h1
  refine ⟨by rw [List.length_take, List.length_drop, h.length]; omega, ?_⟩
  rcases h.cases' with ⟨rfl, rfl, rfl, rfl⟩ | ⟨g, cur, rfl, _⟩
  · have : lo = 0 := by omega
    subst this
    exact .inl ⟨by simp, by omega, rfl⟩
  · right
    by_cases hc : c = lo
    · have : hi - lo = 0 := by have := h.le; omega
      rw [if_pos hc, this]
      exact ⟨_, rfl, fun j u hj => by simp at hj⟩
    · rw [if_neg hc]
      refine ⟨_, rfl, fun j u hj => ?_⟩
      rw [add_add' _ rfl, add_mk, Nat.zero_add]
      rw [List.getElem?_take] at hj
      split at hj
      · rw [List.getElem?_drop] at hj
        exact (h.cell hj).2
      · cases hj

/-- The whole row. -/
theorem Sl.srcAll {w : World} {e : TypeId} {sz n c : Nat} {a : Option Addr} {xs : List Value} (h : Sl w e sz a n c xs) : Src w sz a n c xs := by
  refine ⟨h.length, ?_⟩
  rcases h.cases' with ⟨rfl, rfl, rfl, rfl⟩ | ⟨g, cur, rfl, _⟩
  · exact .inl ⟨rfl, rfl, rfl⟩
  · exact .inr ⟨_, rfl, fun j u hj => by rw [add_mk, Nat.zero_add]; exact (h.cell hj).2⟩

theorem Src.keep {w u : World} {sz m c : Nat} {x : Option Addr} {news : List Value} {S : Nat → Prop} (h : Src w sz x m c news) (hk : Keep S w u) (hs : ∀ a, x = some a → ¬ S a.block) : Src u sz x m c news := by
  refine ⟨h.1, h.2.imp id ?_⟩
  rintro ⟨a, rfl, hr⟩
  refine ⟨a, rfl, fun j v hj => ?_⟩
  have h0 := hr j v hj
  have hb : (a.add j).block = a.block := by unfold Addr.add; split <;> rfl
  exact (World.cell?_of_block (hk.block _ (World.block_lt_of_cell? w _ h0) (by rw [hb]; exact hs a rfl))).trans h0

/-- What a call may hold behind it: S, and what is new since w. -/
def Ext (S : Nat → Prop) (w u : World) : Nat → Prop := fun g => S g ∨ (w.heap.size ≤ g ∧ g < u.heap.size)

/-- The row's head. -/
theorem Sl.head {w : World} {e : TypeId} {sz n c : Nat} {a : Option Addr} {xs : List Value} (h : Sl w e sz a n c xs) {m : Nat} (hm : m ≤ n) : Sl w e sz a m c (xs.take (m * sz)) := by
  rcases h.cases' with ⟨rfl, rfl, rfl, rfl⟩ | ⟨g, cur, rfl, h2, h3, h4, h5, h6⟩
  · have : m = 0 := by omega
    subst this
    simpa using Sl.nil w e sz
  · have := Sl.mk' (n := m) h2 (by omega) h4 h5
    rw [← h6, List.take_take, Nat.min_eq_left (Nat.mul_le_mul_right _ hm)]
    exact this

theorem Sl.from0 {w : World} {e : TypeId} {sz n c : Nat} {a : Option Addr} {xs : List Value} (h : Sl w e sz a n c xs) (k : Nat) (hk : k = 0) : a.map (·.add k) = a := by
  subst hk
  rcases h.cases' with ⟨rfl, _⟩ | ⟨g, cur, rfl, _⟩ <;> rfl

/-- APPEND WHERE THERE IS ROOM. -/
theorem append_fits {P : Program} {w : World} {t ty e : TypeId} {sz bytes : Nat} (E : ElemOk P t e sz bytes) {a x : Option Addr} {n c m cx : Nat} {xs news : List Value} (h : Sl w e sz a n c xs) (hx : Src w sz x m cx news)
    (h1 : ∀ u ∈ news, u.oneCell' = true) (hroom : n + m ≤ c) :
    ∃ w', (Builtin.append_ ⟨[t, t]⟩ ty ⟨[.slice a n c, .slice x m cx]⟩).run P w = .ok (.slice a (n + m) c) w' ∧ Sl w' e sz a (n + m) c (xs ++ news) ∧ Keep (Blk a) w w' ∧ w'.heap.size = w.heap.size := by
  obtain ⟨ht, ⟨i, z, hi, hz, hsz, hby, hzs⟩, hpos⟩ := E
  rcases hx with ⟨hl, ⟨rfl, rfl, rfl⟩ | ⟨ad, rfl, hr⟩⟩
  · have : news = [] := List.eq_nil_of_length_eq_zero (by simpa using hl)
    subst this
    exact ⟨w, run_append_owned_none w 0 t ty e i sz ht hi _ n xs h, by simpa using h, Keep.refl _ _, rfl⟩
  · rcases h.cases' with ⟨rfl, rfl, rfl, rfl⟩ | ⟨g, cur, rfl, h2, h3, h4, h5, h6⟩
    · have hm : m = 0 := by omega
      subst hm
      have : news = [] := List.eq_nil_of_length_eq_zero (by simpa using hl)
      subst this
      refine ⟨w, ?_, Sl.nil _ _ _, Keep.refl _ _, rfl⟩
      simp [Builtin.append_, run_underlying ht, sizeOf, typeInfo, hi, Builtin.lenOf, Builtin.firstCells, loadCells, loadCellsFrom]
    · subst hsz
      have hfit : n * i.size + news.length ≤ cur.size := by rw [hl, h5, ← Nat.add_mul]; exact Nat.mul_le_mul_right _ hroom
      have r0 := run_append_room (P := P) w t ty e i ht hi g n c cur h2 ad m cx news hl hr h1 hroom hfit
      have hat := setRow_heap w g cur (cur.toList.take (n * i.size) ++ news ++ cur.toList.drop (n * i.size + news.length)).toArray e _ h2
      refine ⟨_, r0, ?_, ⟨rfl, rfl, rfl, by simp, fun k _ hk => setRow_other w g k _ (fun e => hk (e ▸ Blk.mk _ _))⟩, by simp⟩
      have := Sl.mk' (sz := i.size) (n := n + m) hat hroom h4 (by simp only [List.size_toArray, List.length_append, List.length_take, List.length_drop, Array.length_toList]; omega)
      have hx : (xs ++ news).length = (n + m) * i.size := by rw [List.length_append, h.length, hl, Nat.add_mul]
      rw [show (cur.toList.take (n * i.size) ++ news ++ cur.toList.drop (n * i.size + news.length)).toArray.toList = xs ++ news ++ cur.toList.drop (n * i.size + news.length) by rw [h6]] at this
      rw [show (xs ++ news ++ cur.toList.drop (n * i.size + news.length)).take ((n + m) * i.size) = xs ++ news by rw [← hx]; exact List.take_left] at this
      exact this

/-- The cell behind a row's last one is wiped. -/
theorem clear_one {P : Program} {w : World} {t ty e : TypeId} {z : Value} (ht : P.underlying t = some (.slice e)) (hv : ∀ w, (zeroValue e).run P w = .ok z w) (hz : z.cells = #[z]) (h1 : z.oneCell' = true) {a : Option Addr} {n c cx : Nat} {xs : List Value} (h : Sl w e 1 a n c xs) (hn : n < c) :
    ∃ w', (Builtin.clear_ ⟨[t]⟩ ty ⟨[.slice (a.map (·.add n)) 1 cx]⟩).run P w = .ok (.tuple ⟨[]⟩) w' ∧ Sl w' e 1 a n c xs ∧ Keep (Blk a) w w' ∧ w'.heap.size = w.heap.size := by
  rcases h.cases' with ⟨rfl, rfl, rfl, rfl⟩ | ⟨g, cur, rfl, h2, h3, h4, h5, h6⟩
  · omega
  · have hzc : (Builtin.zeroCells z.cells 1).toList = [z] := by
      rw [hz]; simp [Builtin.zeroCells]
    have hst := run_storeCells_at P g n e [z] 0 cur w h2 (by simp; omega) (by simpa using h1)
    refine ⟨w.setRow g (cur.toList.take (n + 0) ++ [z] ++ cur.toList.drop (n + 0 + [z].length)).toArray, ?_, ?_, ⟨rfl, rfl, rfl, by simp, fun k _ hk => setRow_other w g k _ (fun e => hk (e ▸ Blk.mk _ _))⟩, by simp⟩
    · have : (some (⟨g, 0, none⟩ : Addr)).map (·.add n) = some ⟨g, n, none⟩ := by simp [add_mk]
      rw [this]
      simp only [Builtin.clear_, show (⟨[t]⟩ : Array TypeId)[0]? = some t from rfl, show (⟨[.slice (some ⟨g, n, none⟩) 1 cx]⟩ : Array Value)[0]? = some (.slice (some ⟨g, n, none⟩) 1 cx) from rfl, Sem.run_bind, run_underlying ht, Result.andThen, hv, hzc, hst]
      rfl
    · have hat := setRow_heap w g cur (cur.toList.take (n + 0) ++ [z] ++ cur.toList.drop (n + 0 + [z].length)).toArray e _ h2
      have := Sl.mk' (n := n) (c := c) (sz := 1) hat h3 h4 (by simp only [List.size_toArray, List.length_append, List.length_take, List.length_drop, Array.length_toList, List.length_cons, List.length_nil]; omega)
      rw [show ((cur.toList.take (n + 0) ++ [z] ++ cur.toList.drop (n + 0 + [z].length)).toArray).toList.take (n * 1) = xs by
        rw [← h6, Nat.add_zero, Nat.mul_one, show ∀ l : List Value, l.toArray.toList = l from fun _ => rfl, List.append_assoc, List.take_append_of_le_length (by rw [List.length_take, Array.length_toList]; omega), List.take_take, Nat.min_self]] at this
      exact this

/-- The empty literal. -/
theorem buildSlice_zero {P : Program} {w : World} {t e : TypeId} {sz bytes : Nat} (E : ElemOk P t e sz bytes) :
    ∃ w', (Instr.buildSlice t 0 ⟨[]⟩).run P w = .ok (.slice (some ⟨w.heap.size, 0, none⟩) 0 0) w' ∧ New w (.cells #[] e) w' := by
  obtain ⟨ht, ⟨i, z, hi, hz, hsz, hby, hzs⟩, hpos⟩ := E
  refine ⟨w.alloc (.cells #[] e), ?_, New.mk' _ _⟩
  simp [Instr.buildSlice, run_underlying ht, sizeOf, typeInfo, hi, Instr.fill, newRow, Result.andThen]
  congr 2
  apply Array.toList_inj.1
  simp [Array.range]

end Go.Proofs.YtgepmlgkeljelaaGreat.Vc
