/- Memory: what a world keeps, steps of a condition, maps' writes. -/
import Derived.Test.YtgepmlgkeljelaaGreatVcV
import Derived.Laws.OwnMore
import Derived.Maps.RangeRun
import Derived.Below
namespace Go.Proofs.YtgepmlgkeljelaaGreat.Vc
open Go

/-- u comes of w: the blocks outside S are as they were; none goes. -/
structure Keep (S : Nat → Prop) (w u : World) : Prop where
  os : u.os = w.os
  tape : u.tape = w.tape
  output : u.output = w.output
  size : w.heap.size ≤ u.heap.size
  block : ∀ b, b < w.heap.size → ¬ S b → u.heap[b]? = w.heap[b]?

theorem lt_of_at {w : World} {b : Nat} {o : Obj} (h : w.heap[b]? = some o) : b < w.heap.size := (Array.getElem?_eq_some_iff.1 h).1

namespace Keep
variable {S S' : Nat → Prop} {w u v : World}
theorem refl (S : Nat → Prop) (w : World) : Keep S w w := ⟨rfl, rfl, rfl, Nat.le_refl _, fun _ _ _ => rfl⟩
theorem trans (h : Keep S w u) (k : Keep S' u v) (hs : ∀ b, b < w.heap.size → S' b → S b) : Keep S w v :=
  ⟨k.os.trans h.os, k.tape.trans h.tape, k.output.trans h.output, Nat.le_trans h.size k.size,
    fun b hb hn => (k.block b (Nat.lt_of_lt_of_le hb h.size) (fun h' => hn (hs b hb h'))).trans (h.block b hb hn)⟩
theorem mono (h : Keep S w u) (hs : ∀ b, b < w.heap.size → S b → S' b) : Keep S' w u := ⟨h.os, h.tape, h.output, h.size, fun b hb hn => h.block b hb (fun h' => hn (hs b hb h'))⟩
/-- Steps that write only what S holds, or what is new. -/
theorem andThen (h : Keep S w u) (k : Keep S' u v) (hs : ∀ b, S' b → S b ∨ w.heap.size ≤ b) : Keep S w v :=
  h.trans k fun b hb h' => (hs b h').resolve_right (by omega)
theorem at_ {b : Nat} {o : Obj} (h : Keep S w u) (hb : w.heap[b]? = some o) (hn : ¬ S b) : u.heap[b]? = some o := (h.block b (lt_of_at hb) hn).trans hb
theorem drew (S : Nat → Prop) (h : Drew w u) : Keep S w u := by
  obtain ⟨n, rfl⟩ := h
  exact ⟨rfl, rfl, rfl, Nat.le_refl _, fun _ _ _ => rfl⟩
theorem grown {row : Option Nat} (h : w.grownBy u row) : Keep (fun b => row = some b) w u :=
  ⟨h.os, h.tape, h.output, h.size, fun b hb hn => h.block b hb (fun e => hn e.symm)⟩
theorem below (h : Keep S w u) {B : Nat} (hB : B ≤ w.heap.size) (hs : ∀ b, b < B → ¬ S b) : RowKit.Below B w u :=
  ⟨h.os, h.tape, h.output, h.size, fun b hb => h.block b (Nat.lt_of_lt_of_le hb hB) (hs b hb)⟩
end Keep

def NoB : Nat → Prop := fun _ => False
/-- S, and all that is new since w. -/
def Plus (S : Nat → Prop) (n : Nat) : Nat → Prop := fun b => S b ∨ n ≤ b

/-! ### Cells -/
theorem add_mk (b o : Nat) (i : Nat) : (⟨b, o, none⟩ : Addr).add i = ⟨b, o + i, none⟩ := by
  unfold Addr.add; split <;> simp_all
theorem add_add' (a : Addr) (h : a.spot = none) (i j : Nat) : (a.add i).add j = a.add (i + j) := by
  obtain ⟨b, o, s⟩ := a
  cases h
  simp [add_mk, Nat.add_assoc]

theorem cell_at {w : World} {b o i : Nat} {c : Array Value} {ty : TypeId} {fz : Nat × Nat} {v : Value} (h : w.heap[b]? = some (.cells c ty fz)) (hv : c[o + i]? = some v) : w.cell? ((⟨b, o, none⟩ : Addr).add i) = some v := by
  rw [add_mk]; simp [World.cell?, h, hv]
theorem cell_at0 {w : World} {b o : Nat} {c : Array Value} {ty : TypeId} {fz : Nat × Nat} {v : Value} (h : w.heap[b]? = some (.cells c ty fz)) (hv : c[o]? = some v) : w.cell? (⟨b, o, none⟩ : Addr) = some v := by
  simp [World.cell?, h, hv]
theorem notFrozen {w : World} {b o i : Nat} {c : Array Value} {ty : TypeId} (h : w.heap[b]? = some (.cells c ty)) : w.frozen? ((⟨b, o, none⟩ : Addr).add i) = false := by
  rw [add_mk]; simp [World.frozen?, h]

/-- One block is another; the rest is as it was. -/
structure Set1 (w : World) (b : Nat) (o : Obj) (u : World) : Prop where
  keep : Keep (fun b' => b' = b) w u
  size : u.heap.size = w.heap.size
  at_ : u.heap[b]? = some o

theorem Set1.mk' {w : World} {b : Nat} {o o0 : Obj} (h : w.heap[b]? = some o0) : Set1 w b o { w with heap := w.heap.setIfInBounds b o } := by
  have hlt := lt_of_at h
  refine ⟨⟨rfl, rfl, rfl, by simp, fun b' _ hn => ?_⟩, by simp, by simp [hlt]⟩
  simp [Array.getElem?_setIfInBounds, Ne.symm (show b' ≠ b from hn)]

theorem Set1.cell {w : World} {b o i : Nat} {c : Array Value} {ty : TypeId} (h : w.heap[b]? = some (.cells c ty)) (v : Value) :
    Set1 w b (.cells (c.setIfInBounds (o + i) v) ty) (w.setCell ((⟨b, o, none⟩ : Addr).add i) v) := by
  rw [add_mk]
  have hlt := lt_of_at h
  refine ⟨⟨rfl, rfl, rfl, by simp [World.setCell], fun b' _ hn => ?_⟩, by simp [World.setCell], ?_⟩
  · simp [World.setCell, Array.getElem?_modify, Ne.symm (show b' ≠ b from hn)]
  · simp [World.setCell, Array.getElem?_modify, h]

/-- A STORE, IN A CONDITION. -/
theorem store_step {w : World} {b o i : Nat} {c : Array Value} {ty : TypeId} {v : Value} {K : World → Prop} (h : w.heap[b]? = some (.cells c ty)) (hi : o + i < c.size)
    (hk : ∀ u, Set1 w b (.cells (c.setIfInBounds (o + i) v) ty) u → K u) :
    (∃ old, w.cell? ((⟨b, o, none⟩ : Addr).add i) = some old) ∧ w.frozen? ((⟨b, o, none⟩ : Addr).add i) = false ∧ letW (w.setCell ((⟨b, o, none⟩ : Addr).add i) v) K :=
  ⟨⟨_, cell_at h (Array.getElem?_eq_getElem hi)⟩, notFrozen h, hk _ (Set1.cell h v)⟩

/-- A new block. -/
structure New (w : World) (o : Obj) (u : World) : Prop where
  keep : Keep NoB w u
  size : u.heap.size = w.heap.size + 1
  at_ : u.heap[w.heap.size]? = some o

theorem New.mk' (w : World) (o : Obj) : New w o (w.alloc o) :=
  ⟨⟨rfl, rfl, rfl, by simp, fun b hb _ => heap_alloc_old w o hb⟩, by simp, heap_alloc_new w o⟩

theorem alloc_step {w : World} {o : Obj} {K : World → Prop} (hk : ∀ u, New w o u → K u) : letW (w.alloc o) K := hk _ (New.mk' w o)

theorem put_step {w : World} {b : Nat} {o o0 : Obj} {K : World → Prop} (h : w.heap[b]? = some o0) (hk : ∀ u, Set1 w b o u → K u) : letW (w.putObj b o) K :=
  hk _ (Set1.mk' h)

theorem Drew.at_ {w u : World} (h : Drew w u) {b : Nat} {o : Obj} (hb : w.heap[b]? = some o) : u.heap[b]? = some o := by rw [h.heap]; exact hb
theorem Drew.size {w u : World} (h : Drew w u) : u.heap.size = w.heap.size := by rw [h.heap]

/-! ### Maps -/
theorem keyEq_refl {k : Value} (h : likeKey k k) : keyEq k k = true := by
  cases k <;> simp only [likeKey] at h <;> simp [keyEq, (MapKept.bytes_beq _ _).2]
theorem keyEq_eq {a b : Value} (h : keyEq a b = true) : a = b := by
  cases a <;> cases b <;> simp only [keyEq] at h <;> try cases h
  · simp only [Bool.and_eq_true, beq_iff_eq] at h
    obtain ⟨h1, rfl⟩ := h
    have := kno_inj (Nat.eq_of_beq_eq_true h1)
    subst this; rfl
  · rw [(MapKept.bytes_beq _ _).1 h]

theorem mfind_none {k : Value} : ∀ {es : List MapEntry}, mfind k es = none ↔ ∀ e ∈ es, keyEq k e.key = false
  | [] => by simp [mfind]
  | e :: es => by
    unfold mfind
    cases h : keyEq k e.key
    · simp [h, mfind_none (k := k) (es := es)]
    · simp [h]
theorem mfind_some {k v : Value} : ∀ {es : List MapEntry}, mfind k es = some v → ∃ a e b, es = a ++ e :: b ∧ keyEq k e.key = true ∧ e.val = v ∧ ∀ x ∈ a, keyEq k x.key = false
  | [], h => by cases h
  | e :: es, h => by
    unfold mfind at h
    cases hk : keyEq k e.key
    · rw [hk] at h
      obtain ⟨a, e', b, rfl, h2, h3, h4⟩ := mfind_some (es := es) h
      exact ⟨e :: a, e', b, rfl, h2, h3, by simp [hk]; exact fun x hx => h4 x hx⟩
    · rw [hk] at h
      cases h
      exact ⟨[], e, es, rfl, hk, rfl, by simp⟩

theorem sameBits_key {n : Nat} {k : Value} (h : likeKey k k) : Instr.sameBits n k k = true := by
  cases k <;> simp only [likeKey] at h <;> (cases n <;> simp [Instr.sameBits, (MapKept.bytes_beq _ _).2])

/-- How an entry is found: first place. -/
theorem findNow_place {d : TypeDesc} {k : Value} (hk : kdKey (kdOf (some d)) k = true) : ∀ (a : List MapEntry) (e : MapEntry) (b : List MapEntry) (i : Nat), keysLike k (a ++ e :: b) → keyEq k e.key = true → (∀ x ∈ a, keyEq k x.key = false) →
    Instr.findNow d k (a ++ e :: b) i = some (some (i + a.length, e.val)) := by
  have hn : ∀ e : MapEntry, likeKey k e.key → Instr.sameNow d k e.key = some (keyEq k e.key) := by
    intro e he
    cases k <;> cases hek : e.key <;> simp only [likeKey, hek] at he <;> try exact he.elim
    · cases d <;> simp [kdOf, kdKey] at hk
      subst he
      simp [Instr.sameNow, keyEq]
    · cases d <;> simp [kdOf, kdKey] at hk
      simp [Instr.sameNow, keyEq]
  intro a
  induction a with
  | nil =>
    intro e b i hl he _
    simp only [List.nil_append, List.length_nil, Nat.add_zero]
    unfold Instr.findNow
    rw [hn e (hl e (by simp)), he]
  | cons x a ih =>
    intro e b i hl he ha
    rw [List.cons_append]
    unfold Instr.findNow
    rw [hn x (hl x (by simp)), ha x (by simp)]
    simp only
    rw [ih e b (i + 1) (fun y hy => hl y (by rw [List.cons_append]; exact List.mem_cons_of_mem _ hy)) he (fun y hy => ha y (by simp [hy]))]
    simp only [List.length_cons]
    congr 3
    omega

theorem findKey_place {P : Program} {t : TypeId} {d : TypeDesc} (hu : P.underlying t = some d) {k : Value} (hk : kdKey (kdOf (some d)) k = true) {a b : List MapEntry} {e : MapEntry} (hl : keysLike k (a ++ e :: b)) (he : keyEq k e.key = true) (ha : ∀ x ∈ a, keyEq k x.key = false) (w : World) :
    (Instr.findKey t k (a ++ e :: b)).run P w = .ok (some (a.length, e.val)) w := by
  unfold Instr.findKey
  rw [Sem.run_bind, run_und hu]
  have := findNow_place hk a e b 0 hl he ha
  simp only [Result.andThen, this, Nat.zero_add]
  rfl
theorem findKey_none {P : Program} {t : TypeId} {d : TypeDesc} (hu : P.underlying t = some d) {k : Value} (hk : kdKey (kdOf (some d)) k = true) {es : List MapEntry} (hl : keysLike k es) (hn : mfind k es = none) (w : World) :
    (Instr.findKey t k es).run P w = .ok none w := by
  obtain ⟨r, h1, h2, _⟩ := findKey_like hu hk hl
  rw [hn] at h2
  cases r with
  | none => exact h1 w
  | some p => cases h2

section
variable {P : Program} {mt kt et : TypeId} {d : TypeDesc} {k v : Value} {w : World} {bm clk : Nat}

/-- m[k] = v, k there. -/
theorem mapUpdate_old (hm : P.underlying mt = some (.map kt et)) (hu : P.underlying kt = some d) (hk : kdKey (kdOf (some d)) k = true) (hlk : likeKey k k) {a b : List MapEntry} {e : MapEntry} (hw : w.heap[bm]? = some (.map ⟨a ++ e :: b⟩ clk))
    (hl : keysLike k (a ++ e :: b)) (he : keyEq k e.key = true) (ha : ∀ x ∈ a, keyEq k x.key = false) :
    ∃ u, (Instr.mapUpdate mt (.map (some bm)) k v).run P w = .ok () u ∧ Set1 w bm (.map ⟨a ++ { e with val := v } :: b⟩ clk) u := by
  refine ⟨{ w with heap := w.heap.setIfInBounds bm (.map ⟨a ++ { e with val := v } :: b⟩ clk) }, ?_, Set1.mk' hw⟩
  have hek := keyEq_eq he
  have h2 : (Instr.findKey kt k (⟨a ++ e :: b⟩ : Array MapEntry).toList).run P w = _ := findKey_place hu hk hl he ha w
  have h3 : (((⟨a ++ e :: b⟩ : Array MapEntry)[a.length]?).map (·.key)).getD k = k := by simp [hek]
  have hmod : (⟨a ++ e :: b⟩ : Array MapEntry).modify a.length (fun e => { e with key := k, val := v }) = ⟨a ++ { e with val := v } :: b⟩ := by
    apply Array.toList_inj.1
    simp only [Array.toList_modify]
    rw [List.modify_eq_take_cons_drop (by simp)]
    simp [hek]
  have hst : (Instr.keyThatStays ((((⟨a ++ e :: b⟩ : Array MapEntry)[a.length]?).map (·.key)).getD k) k).run P w = .ok k w := by
    rw [h3]; simp [Instr.keyThatStays, sameBits_key hlk]
  simp only [Instr.mapUpdate, Sem.run_bind, run_underlying hm, MapKept.run_getObj_map hw, checkKey_run hu hk, h2, Result.andThen, hst, hmod, MapKept.run_setObj_map _ hw]

/-- m[k] = v, k not there. -/
theorem mapUpdate_new (hm : P.underlying mt = some (.map kt et)) (hu : P.underlying kt = some d) (hk : kdKey (kdOf (some d)) k = true) {es : List MapEntry} (hw : w.heap[bm]? = some (.map ⟨es⟩ clk))
    (hl : keysLike k es) (hn : mfind k es = none) :
    ∃ u, (Instr.mapUpdate mt (.map (some bm)) k v).run P w = .ok () u ∧ Set1 w bm (.map ⟨es ++ [{ key := k, val := v, born := clk }]⟩ (clk + 1)) u := by
  refine ⟨{ w with heap := w.heap.setIfInBounds bm (.map ⟨es ++ [{ key := k, val := v, born := clk }]⟩ (clk + 1)) }, ?_, Set1.mk' hw⟩
  have h2 : (Instr.findKey kt k (⟨es⟩ : Array MapEntry).toList).run P w = _ := findKey_none hu hk hl hn w
  simp [Instr.mapUpdate, run_underlying hm, MapKept.run_getObj_map hw, checkKey_run hu hk, h2, Result.andThen, MapKept.run_setObj_map _ hw]

/-- delete(m, k), k there. -/
theorem mapDelete_old (hm : P.underlying mt = some (.map kt et)) (hu : P.underlying kt = some d) (hk : kdKey (kdOf (some d)) k = true) {ty tk : TypeId} {a b : List MapEntry} {e : MapEntry} (hw : w.heap[bm]? = some (.map ⟨a ++ e :: b⟩ clk))
    (hl : keysLike k (a ++ e :: b)) (he : keyEq k e.key = true) (ha : ∀ x ∈ a, keyEq k x.key = false) :
    ∃ u, (Builtin.delete_ ⟨[mt, tk]⟩ ty ⟨[.map (some bm), k]⟩).run P w = .ok (.tuple ⟨[]⟩) u ∧ Set1 w bm (.map ⟨a ++ b⟩ clk) u := by
  refine ⟨{ w with heap := w.heap.setIfInBounds bm (.map ⟨a ++ b⟩ clk) }, ?_, Set1.mk' hw⟩
  have h2 : (Instr.findKey kt k (⟨a ++ e :: b⟩ : Array MapEntry).toList).run P w = _ := findKey_place hu hk hl he ha w
  have her : (⟨a ++ e :: b⟩ : Array MapEntry).eraseIdxIfInBounds a.length = ⟨a ++ b⟩ := by
    apply Array.toList_inj.1
    simp [List.eraseIdx_append_of_length_le]
  have hc : ∀ x, (Instr.checkKey x 10000 kt k).run P w = .ok () w := fun x => checkKey_run hu hk x w
  have hg : ∀ (l : List Value) (i : Nat), (⟨l⟩ : Array Value)[i]? = l[i]? := fun l i => by simp
  have hg' : ∀ (l : List TypeId) (i : Nat), (⟨l⟩ : Array TypeId)[i]? = l[i]? := fun l i => by simp
  simp only [Builtin.delete_, hg, hg', List.getElem?_cons_zero, List.getElem?_cons_succ, Sem.run_bind, run_underlying hm, MapKept.run_getObj_map hw, hc, h2, Result.andThen, her, MapKept.run_setObj_map _ hw]
  rfl
end

end Go.Proofs.YtgepmlgkeljelaaGreat.Vc
