/- Conditions of functions, and that they are enough. Written by vcgen.py. -/
import Derived.Test.YtgepmlgkeljelaaGreatTab
set_option maxRecDepth 100000
namespace Go.Proofs.YtgepmlgkeljelaaGreat.Vc
open Go
def V_revertlaw17_puts (q0 : Option Addr) (data1 : ByteArray) (want2 : Option Addr) (want2l want2c : Nat) (R : Ending → World → Prop) (w : World) : Prop :=
 Calls P F.«pool_Plan_Put» ⟨[.pointer q0, .string data1]⟩ w fun e12 w12 => ∃ (a12_a : Option Addr) (l12_a c12_a : Nat), ∃ n12_b : Int, e12 = .returned (.tuple ⟨[.slice a12_a l12_a c12_a, .int .i64 n12_b]⟩) ∧
 bcase (n12_b == 0) (
  Calls P F.«revertref17_Ids» ⟨[.slice a12_a l12_a c12_a, .slice want2 want2l want2c]⟩ w12 fun e20 w20 => ∃ b20 : Bool, e20 = .returned (.bool b20) ∧
  R (.returned (.bool b20)) w20)
 (R (.returned (.bool false)) w12)
def plan_revertlaw17_puts : Plan := { loops := fun i => match i with | _ => ([], []), cuts := fun i => match i with | _ => none, head := fun i => match i with | _ => none, rng := fun i => match i with | _ => [] }
theorem ok_revertlaw17_puts {q0 : Option Addr} {data1 : ByteArray} {want2 : Option Addr} {want2l want2c : Nat} {R : Ending → World → Prop} {w : World} (h : V_revertlaw17_puts q0 data1 want2 want2l want2c R w) : Calls P F.«revertlaw17_puts» ⟨[.pointer q0, .string data1, .slice want2 want2l want2c]⟩ w R :=
  calls_of_vc tabOk bdOk mixed (fn := Tryz.f95) (c := bodyOf Tryz.f95) (pl := plan_revertlaw17_puts) Tryz.func95 (by kernel_rfl) (Nat.le_of_ble_eq_true (by kernel_rfl)) (by kernel_rfl)
    (Eq.mp (show V_revertlaw17_puts q0 data1 want2 want2l want2c R w = vcFun P Tb Bd plan_revertlaw17_puts (raw Tryz.f95.ntmps) Tryz.f95.results.toList (bodyOf Tryz.f95) [.pointer q0, .string data1, .slice want2 want2l want2c] R w by kernel_rfl) h)

def V_hash_New  (R : Ending → World → Prop) (w : World) : Prop :=
 letW (w.alloc (.cells ⟨[.bool true, .slice none 0 0, .slice none 0 0, .slice none 0 0, .slice none 0 0, .slice none 0 0, .slice none 0 0, .slice none 0 0, .slice none 0 0, .slice none 0 0, .slice none 0 0, .slice none 0 0, .slice none 0 0, .slice none 0 0, .slice none 0 0, .slice none 0 0, .slice none 0 0]⟩ T.«hash_Index»)) fun u0 =>
 R (.returned (.pointer (some ⟨w.heap.size, 0, none⟩))) u0
def plan_hash_New : Plan := { loops := fun i => match i with | _ => ([], []), cuts := fun i => match i with | _ => none, head := fun i => match i with | _ => none, rng := fun i => match i with | _ => [] }
theorem ok_hash_New  {R : Ending → World → Prop} {w : World} (h : V_hash_New  R w) : Calls P F.«hash_New» ⟨[]⟩ w R :=
  calls_of_vc tabOk bdOk mixed (fn := Tryz.f96) (c := bodyOf Tryz.f96) (pl := plan_hash_New) Tryz.func96 (by kernel_rfl) (Nat.le_of_ble_eq_true (by kernel_rfl)) (by kernel_rfl)
    (Eq.mp (show V_hash_New  R w = vcFun P Tb Bd plan_hash_New (raw Tryz.f96.ntmps) Tryz.f96.results.toList (bodyOf Tryz.f96) [] R w by kernel_rfl) h)

def V_dedup_Table_is (t0 : Option Addr) (R : Ending → World → Prop) (w : World) : Prop :=
 bcase (!(t0).isNone) (
  ptrW t0 fun a7 =>
  ∃ m9 : Option Nat, w.cell? (a7.add 0) = some (.map m9) ∧
  R (.returned (.bool (!m9.isNone))) w)
 (R (.returned (.bool false)) w)
def plan_dedup_Table_is : Plan := { loops := fun i => match i with | _ => ([], []), cuts := fun i => match i with | _ => none, head := fun i => match i with | _ => none, rng := fun i => match i with | _ => [] }
theorem ok_dedup_Table_is {t0 : Option Addr} {R : Ending → World → Prop} {w : World} (h : V_dedup_Table_is t0 R w) : Calls P F.«dedup_Table_is» ⟨[.pointer t0]⟩ w R :=
  calls_of_vc tabOk bdOk mixed (fn := Tryz.f97) (c := bodyOf Tryz.f97) (pl := plan_dedup_Table_is) Tryz.func97 (by kernel_rfl) (Nat.le_of_ble_eq_true (by kernel_rfl)) (by kernel_rfl)
    (Eq.mp (show V_dedup_Table_is t0 R w = vcFun P Tb Bd plan_dedup_Table_is (raw Tryz.f97.ntmps) Tryz.f97.results.toList (bodyOf Tryz.f97) [.pointer t0] R w by kernel_rfl) h)

def V_dedup_Table_put (t0 : Option Addr) (id1 : Int) (x2_0 : ByteArray) (x2_1 : Int) (x2_2 : Int) (R : Ending → World → Prop) (w : World) : Prop :=
 letW (w.alloc (.cells ⟨[.string x2_0, .int .i64 x2_1, .int .i64 x2_2]⟩ T.«dedup_chunk»)) fun u0 =>
 ptrW t0 fun a7 =>
 ∃ m9 : Option Nat, u0.cell? (a7.add 0) = some (.map m9) ∧
 ∃ s11_0 : ByteArray, ∃ n11_1 : Int, ∃ n11_2 : Int, (u0.cell? ((⟨w.heap.size, 0, none⟩ : Addr).add 0) = some (.string s11_0) ∧ u0.cell? ((⟨w.heap.size, 0, none⟩ : Addr).add 1) = some (.int .i64 n11_1) ∧ u0.cell? ((⟨w.heap.size, 0, none⟩ : Addr).add 2) = some (.int .i64 n11_2) ∧ True) ∧
 ∀ wd1, Drew u0 wd1 →
 ∃ wx6, (Instr.mapUpdate T.«m_u32_dedup_chunk» (.map m9) (.int .u32 id1) (.agg ⟨[.string s11_0, .int .i64 n11_1, .int .i64 n11_2]⟩)).run P wd1 = .ok () wx6 ∧
 ptrW t0 fun a13 =>
 ∃ p15 : Option Addr, wx6.cell? (a13.add 1) = some (.pointer p15) ∧
 ∃ s17 : ByteArray, wx6.cell? ((⟨w.heap.size, 0, none⟩ : Addr).add 0) = some (.string s17) ∧
 ∀ wd2, Drew wx6 wd2 →
 Calls P F.«hash_Index_Add» ⟨[.pointer p15, .string s17, .int .u32 id1]⟩ wd2 fun e19 w19 => ∃ n19 : Int, e19 = .returned (.int .i64 n19) ∧
 ptrW t0 fun a22 =>
 ∃ n24 : Int, w19.cell? (a22.add 2) = some (.int .u32 n24) ∧
 ptrW t0 fun a28 =>
 (∃ old, w19.cell? ((a28.add 2).add 0) = some old) ∧ w19.frozen? ((a28.add 2).add 0) = false ∧
 letW (w19.setCell ((a28.add 2).add 0) (.int .u32 (if (IntKind.wrap .u32 (id1 + 1)) > n24 then (IntKind.wrap .u32 (id1 + 1)) else n24))) fun u0_1 =>
 R (.returned (.tuple ⟨[]⟩)) u0_1
def plan_dedup_Table_put : Plan := { loops := fun i => match i with | _ => ([], []), cuts := fun i => match i with | _ => none, head := fun i => match i with | 1 => some ([], [0, 1, 2, 3, 4, 5], [6]) | 2 => some ([], [0, 1, 2, 3, 4, 5, 6], [7]) | _ => none, rng := fun i => match i with | _ => [] }
theorem ok_dedup_Table_put {t0 : Option Addr} {id1 : Int} {x2_0 : ByteArray} {x2_1 : Int} {x2_2 : Int} {R : Ending → World → Prop} {w : World} (h : V_dedup_Table_put t0 id1 x2_0 x2_1 x2_2 R w) : Calls P F.«dedup_Table_put» ⟨[.pointer t0, .int .u32 id1, .agg ⟨[.string x2_0, .int .i64 x2_1, .int .i64 x2_2]⟩]⟩ w R :=
  calls_of_vc tabOk bdOk mixed (fn := Tryz.f98) (c := bodyOf Tryz.f98) (pl := plan_dedup_Table_put) Tryz.func98 (by kernel_rfl) (Nat.le_of_ble_eq_true (by kernel_rfl)) (by kernel_rfl)
    (Eq.mp (show V_dedup_Table_put t0 id1 x2_0 x2_1 x2_2 R w = vcFun P Tb Bd plan_dedup_Table_put (raw Tryz.f98.ntmps) Tryz.f98.results.toList (bodyOf Tryz.f98) [.pointer t0, .int .u32 id1, .agg ⟨[.string x2_0, .int .i64 x2_1, .int .i64 x2_2]⟩] R w by kernel_rfl) h)

def V_space_Space_is (s0 : Option Addr) (R : Ending → World → Prop) (w : World) : Prop :=
 bcase (!(s0).isNone) (
  ptrW s0 fun a7 =>
  ∃ n9 : Int, w.cell? (a7.add 1) = some (.int .i64 n9) ∧
  R (.returned (.bool (decide (n9 > 0)))) w)
 (R (.returned (.bool false)) w)
def plan_space_Space_is : Plan := { loops := fun i => match i with | _ => ([], []), cuts := fun i => match i with | _ => none, head := fun i => match i with | _ => none, rng := fun i => match i with | _ => [] }
theorem ok_space_Space_is {s0 : Option Addr} {R : Ending → World → Prop} {w : World} (h : V_space_Space_is s0 R w) : Calls P F.«space_Space_is» ⟨[.pointer s0]⟩ w R :=
  calls_of_vc tabOk bdOk mixed (fn := Tryz.f99) (c := bodyOf Tryz.f99) (pl := plan_space_Space_is) Tryz.func99 (by kernel_rfl) (Nat.le_of_ble_eq_true (by kernel_rfl)) (by kernel_rfl)
    (Eq.mp (show V_space_Space_is s0 R w = vcFun P Tb Bd plan_space_Space_is (raw Tryz.f99.ntmps) Tryz.f99.results.toList (bodyOf Tryz.f99) [.pointer s0] R w by kernel_rfl) h)

def V_slices_Clone_sl_space_bits_space_bits (s0 : Option Addr) (s0l s0c : Nat) (R : Ending → World → Prop) (w : World) : Prop :=
 bcase s0.isNone (
  R (.returned (.slice none 0 0)) w)
 (∃ (a5 : Option Addr) (l5 c5 : Nat), ∃ w5, (Instr.buildSlice T.«l_space_bits» 0 ⟨[]⟩).run P w = .ok (.slice a5 l5 c5) w5 ∧
  ∃ (a7 : Option Addr) (l7 c7 : Nat), ∃ w7, (Builtin.append_ ⟨[T.«l_space_bits», T.«l_space_bits»]⟩ T.«l_space_bits» ⟨[.slice a5 l5 c5, .slice s0 s0l s0c]⟩).run P w5 = .ok (.slice a7 l7 c7) w7 ∧
  R (.returned (.slice a7 l7 c7)) w7)
def plan_slices_Clone_sl_space_bits_space_bits : Plan := { loops := fun i => match i with | _ => ([], []), cuts := fun i => match i with | _ => none, head := fun i => match i with | _ => none, rng := fun i => match i with | _ => [] }
theorem ok_slices_Clone_sl_space_bits_space_bits {s0 : Option Addr} {s0l s0c : Nat} {R : Ending → World → Prop} {w : World} (h : V_slices_Clone_sl_space_bits_space_bits s0 s0l s0c R w) : Calls P F.«slices_Clone_sl_space_bits_space_bits» ⟨[.slice s0 s0l s0c]⟩ w R :=
  calls_of_vc tabOk bdOk mixed (fn := Tryz.f100) (c := bodyOf Tryz.f100) (pl := plan_slices_Clone_sl_space_bits_space_bits) Tryz.func100 (by kernel_rfl) (Nat.le_of_ble_eq_true (by kernel_rfl)) (by kernel_rfl)
    (Eq.mp (show V_slices_Clone_sl_space_bits_space_bits s0 s0l s0c R w = vcFun P Tb Bd plan_slices_Clone_sl_space_bits_space_bits (raw Tryz.f100.ntmps) Tryz.f100.results.toList (bodyOf Tryz.f100) [.slice s0 s0l s0c] R w by kernel_rfl) h)

def V_pool_Plan_each (q0 : Option Addr) (ids1 : Option Addr) (ids1l ids1c : Nat) (dox2 : Value) (R : Ending → World → Prop) (w : World) : Prop :=
 letW (w.alloc (.cells ⟨[.slice ids1 ids1l ids1c]⟩ T.«l_u32»)) fun u0 =>
 oneW dox2 (letW (u0.alloc (.cells ⟨[dox2]⟩ T.«fn_u32_r_api_Errno»)) fun u0_1 =>
  Calls P F.«pool_Plan_try» ⟨[.pointer q0, .func (.func F.«pool_Plan_each_1») ⟨[]⟩ ⟨[.pointer (some ⟨w.heap.size, 0, none⟩), .pointer (some ⟨u0.heap.size, 0, none⟩)]⟩]⟩ u0_1 fun e9 w9 => ∃ n9 : Int, e9 = .returned (.int .i64 n9) ∧
  R (.returned (.int .i64 n9)) w9)
def plan_pool_Plan_each : Plan := { loops := fun i => match i with | _ => ([], []), cuts := fun i => match i with | _ => none, head := fun i => match i with | _ => none, rng := fun i => match i with | _ => [] }
theorem ok_pool_Plan_each {q0 : Option Addr} {ids1 : Option Addr} {ids1l ids1c : Nat} {dox2 : Value} {R : Ending → World → Prop} {w : World} (h : V_pool_Plan_each q0 ids1 ids1l ids1c dox2 R w) : Calls P F.«pool_Plan_each» ⟨[.pointer q0, .slice ids1 ids1l ids1c, dox2]⟩ w R :=
  calls_of_vc tabOk bdOk mixed (fn := Tryz.f101) (c := bodyOf Tryz.f101) (pl := plan_pool_Plan_each) Tryz.func101 (by kernel_rfl) (Nat.le_of_ble_eq_true (by kernel_rfl)) (by kernel_rfl)
    (Eq.mp (show V_pool_Plan_each q0 ids1 ids1l ids1c dox2 R w = vcFun P Tb Bd plan_pool_Plan_each (raw Tryz.f101.ntmps) Tryz.f101.results.toList (bodyOf Tryz.f101) [.pointer q0, .slice ids1 ids1l ids1c, dox2] R w by kernel_rfl) h)

def V_pool_Plan_Release_1 (id0 : Int) (c1 : Option Addr) (R : Ending → World → Prop) (w : World) : Prop :=
 ptrW c1 fun a7 =>
 ∃ p7 : Option Addr, w.cell? a7 = some (.pointer p7) ∧
 ptrW p7 fun a8 =>
 ∃ p10 : Option Addr, w.cell? (a8.add 1) = some (.pointer p10) ∧
 Calls P F.«dedup_Table_Release» ⟨[.pointer p10, .int .u32 id0]⟩ w fun e12 w12 => ∃ b12_a : Bool, ∃ n12_b : Int, e12 = .returned (.tuple ⟨[.bool b12_a, .int .i64 n12_b]⟩) ∧
 R (.returned (.int .i64 n12_b)) w12
def plan_pool_Plan_Release_1 : Plan := { loops := fun i => match i with | _ => ([], []), cuts := fun i => match i with | _ => none, head := fun i => match i with | _ => none, rng := fun i => match i with | _ => [] }
theorem ok_pool_Plan_Release_1 {id0 : Int} {c1 : Option Addr} {R : Ending → World → Prop} {w : World} (h : V_pool_Plan_Release_1 id0 c1 R w) : Calls P F.«pool_Plan_Release_1» ⟨[.int .u32 id0, .pointer c1]⟩ w R :=
  calls_of_vc tabOk bdOk mixed (fn := Tryz.f102) (c := bodyOf Tryz.f102) (pl := plan_pool_Plan_Release_1) Tryz.func102 (by kernel_rfl) (Nat.le_of_ble_eq_true (by kernel_rfl)) (by kernel_rfl)
    (Eq.mp (show V_pool_Plan_Release_1 id0 c1 R w = vcFun P Tb Bd plan_pool_Plan_Release_1 (raw Tryz.f102.ntmps) Tryz.f102.results.toList (bodyOf Tryz.f102) [.int .u32 id0, .pointer c1] R w by kernel_rfl) h)

def V_dedup_Table_Release (t0 : Option Addr) (id1 : Int) (R : Ending → World → Prop) (w : World) : Prop :=
 Calls P F.«dedup_Table_find» ⟨[.pointer t0, .int .u32 id1]⟩ w fun e10 w10 => ∃ s10_a_0 : ByteArray, ∃ n10_a_1 : Int, ∃ n10_a_2 : Int, ∃ n10_b : Int, e10 = .returned (.tuple ⟨[.agg ⟨[.string s10_a_0, .int .i64 n10_a_1, .int .i64 n10_a_2]⟩, .int .i64 n10_b]⟩) ∧
 letW (w10.alloc (.cells ⟨[(.string (bs [])), (.int .i64 0), (.int .i64 0)]⟩ T.«dedup_chunk»)) fun u0 =>
 (∃ old, u0.cell? ((⟨w10.heap.size, 0, none⟩ : Addr).add 0) = some old) ∧ u0.frozen? ((⟨w10.heap.size, 0, none⟩ : Addr).add 0) = false ∧
 letW (u0.setCell ((⟨w10.heap.size, 0, none⟩ : Addr).add 0) (.string s10_a_0)) fun u0_1 =>
 (∃ old, u0_1.cell? ((⟨w10.heap.size, 0, none⟩ : Addr).add 1) = some old) ∧ u0_1.frozen? ((⟨w10.heap.size, 0, none⟩ : Addr).add 1) = false ∧
 letW (u0_1.setCell ((⟨w10.heap.size, 0, none⟩ : Addr).add 1) (.int .i64 n10_a_1)) fun u0_2 =>
 (∃ old, u0_2.cell? ((⟨w10.heap.size, 0, none⟩ : Addr).add 2) = some old) ∧ u0_2.frozen? ((⟨w10.heap.size, 0, none⟩ : Addr).add 2) = false ∧
 letW (u0_2.setCell ((⟨w10.heap.size, 0, none⟩ : Addr).add 2) (.int .i64 n10_a_2)) fun u0_3 =>
 bcase (n10_b != 0) (
  R (.returned (.tuple ⟨[.bool false, .int .i64 n10_b]⟩)) u0_3)
 (∃ n17 : Int, u0_3.cell? ((⟨w10.heap.size, 0, none⟩ : Addr).add 2) = some (.int .i64 n17) ∧
  (∃ old, u0_3.cell? (((⟨w10.heap.size, 0, none⟩ : Addr).add 2).add 0) = some old) ∧ u0_3.frozen? (((⟨w10.heap.size, 0, none⟩ : Addr).add 2).add 0) = false ∧
  letW (u0_3.setCell (((⟨w10.heap.size, 0, none⟩ : Addr).add 2).add 0) (.int .i64 (IntKind.wrap .i64 (n17 - 1)))) fun u0_4 =>
  ∃ n21 : Int, u0_4.cell? ((⟨w10.heap.size, 0, none⟩ : Addr).add 2) = some (.int .i64 n21) ∧
  bcase (decide (n21 > 0)) (
   ptrW t0 fun a24 =>
   ∃ m26 : Option Nat, u0_4.cell? (a24.add 0) = some (.map m26) ∧
   ∃ s28_0 : ByteArray, ∃ n28_1 : Int, ∃ n28_2 : Int, (u0_4.cell? ((⟨w10.heap.size, 0, none⟩ : Addr).add 0) = some (.string s28_0) ∧ u0_4.cell? ((⟨w10.heap.size, 0, none⟩ : Addr).add 1) = some (.int .i64 n28_1) ∧ u0_4.cell? ((⟨w10.heap.size, 0, none⟩ : Addr).add 2) = some (.int .i64 n28_2) ∧ True) ∧
   ∀ wd6, Drew u0_4 wd6 →
   ∃ wx6, (Instr.mapUpdate T.«m_u32_dedup_chunk» (.map m26) (.int .u32 id1) (.agg ⟨[.string s28_0, .int .i64 n28_1, .int .i64 n28_2]⟩)).run P wd6 = .ok () wx6 ∧
   R (.returned (.tuple ⟨[.bool false, .int .i64 0]⟩)) wx6)
  (ptrW t0 fun a30 =>
   ∃ m32 : Option Nat, u0_4.cell? (a30.add 0) = some (.map m32) ∧
   ∃ wx5, (Builtin.delete_ ⟨[T.«m_u32_dedup_chunk», T.«u32»]⟩ T.«tup_» ⟨[.map m32, .int .u32 id1]⟩).run P u0_4 = .ok (.tuple ⟨[]⟩) wx5 ∧
   ptrW t0 fun a35 =>
   ∃ p37 : Option Addr, wx5.cell? (a35.add 1) = some (.pointer p37) ∧
   ∃ s39 : ByteArray, wx5.cell? ((⟨w10.heap.size, 0, none⟩ : Addr).add 0) = some (.string s39) ∧
   ∀ wd9, Drew wx5 wd9 →
   Calls P F.«hash_Index_Drop» ⟨[.pointer p37, .string s39, .int .u32 id1]⟩ wd9 fun e41 w41 => ∃ n41 : Int, e41 = .returned (.int .i64 n41) ∧
   R (.returned (.tuple ⟨[.bool true, .int .i64 0]⟩)) w41))
def plan_dedup_Table_Release : Plan := { loops := fun i => match i with | _ => ([], []), cuts := fun i => match i with | _ => none, head := fun i => match i with | 6 => some ([], [0, 1, 2, 3, 4, 5], [6]) | 9 => some ([], [0, 1, 2, 3, 4, 5, 6], [7]) | _ => none, rng := fun i => match i with | _ => [] }
theorem ok_dedup_Table_Release {t0 : Option Addr} {id1 : Int} {R : Ending → World → Prop} {w : World} (h : V_dedup_Table_Release t0 id1 R w) : Calls P F.«dedup_Table_Release» ⟨[.pointer t0, .int .u32 id1]⟩ w R :=
  calls_of_vc tabOk bdOk mixed (fn := Tryz.f103) (c := bodyOf Tryz.f103) (pl := plan_dedup_Table_Release) Tryz.func103 (by kernel_rfl) (Nat.le_of_ble_eq_true (by kernel_rfl)) (by kernel_rfl)
    (Eq.mp (show V_dedup_Table_Release t0 id1 R w = vcFun P Tb Bd plan_dedup_Table_Release (raw Tryz.f103.ntmps) Tryz.f103.results.toList (bodyOf Tryz.f103) [.pointer t0, .int .u32 id1] R w by kernel_rfl) h)

def V_pool_Plan_Write_1 (c0 : Option Addr) (R : Ending → World → Prop) (w : World) : Prop :=
 letW (w.alloc (.cells ⟨[(.int .i64 0)]⟩ T.«api_Errno»)) fun u0 =>
 ptrW c0 fun a10 =>
 ∃ p10 : Option Addr, u0.cell? a10 = some (.pointer p10) ∧
 ptrW p10 fun a11 =>
 ∃ p13 : Option Addr, u0.cell? (a11.add 1) = some (.pointer p13) ∧
 Calls P F.«dedup_Table_All» ⟨[.pointer p13]⟩ u0 fun e14 w14 => ∃ v14 : Value, e14 = .returned (v14) ∧
 onFunc v14 fun gf first caps => bW (Bd gf) (∀ (y : Value) (rec : LoopState → Option Code → Obj),
  (∀ R' : Ending → World → Prop, ∀ (n15 : Int), ∀ (wr : World), wr.heap[(w14.heap.size + 1)]? = some (rec .ready none) →
   (wr.heap[(w14.heap.size + 1)]? = some (rec .ready none) ∧
    letW (wr.putObj (w14.heap.size + 1) (rec .busy none)) fun u0_1 =>
    ptrW c0 fun a17 =>
    ∃ p17 : Option Addr, u0_1.cell? a17 = some (.pointer p17) ∧
    ptrW p17 fun a18 =>
    ∃ p20 : Option Addr, u0_1.cell? (a18.add 0) = some (.pointer p20) ∧
    ptrW p20 fun a21 =>
    ∃ p23 : Option Addr, u0_1.cell? (a21.add 1) = some (.pointer p23) ∧
    Calls P F.«pool_chunk» ⟨[.pointer p23, .int .u32 n15]⟩ u0_1 fun e25 w25 => ∃ n25_a_0 : Int, ∃ n25_a_1 : Int, ∃ n25_a_2 : Int, ∃ n25_a_3 : Int, ∃ b25_b : Bool, e25 = .returned (.tuple ⟨[.agg ⟨[.int .u32 n25_a_0, .int .i64 n25_a_1, .int .i64 n25_a_2, .int .i64 n25_a_3]⟩, .bool b25_b]⟩) ∧
    letW (w25.alloc (.cells ⟨[(.int .u32 0), (.int .i64 0), (.int .i64 0), (.int .i64 0)]⟩ T.«pool_Chunk»)) fun u0_2 =>
    (∃ old, u0_2.cell? ((⟨w25.heap.size, 0, none⟩ : Addr).add 0) = some old) ∧ u0_2.frozen? ((⟨w25.heap.size, 0, none⟩ : Addr).add 0) = false ∧
    letW (u0_2.setCell ((⟨w25.heap.size, 0, none⟩ : Addr).add 0) (.int .u32 n25_a_0)) fun u0_3 =>
    (∃ old, u0_3.cell? ((⟨w25.heap.size, 0, none⟩ : Addr).add 1) = some old) ∧ u0_3.frozen? ((⟨w25.heap.size, 0, none⟩ : Addr).add 1) = false ∧
    letW (u0_3.setCell ((⟨w25.heap.size, 0, none⟩ : Addr).add 1) (.int .i64 n25_a_1)) fun u0_4 =>
    (∃ old, u0_4.cell? ((⟨w25.heap.size, 0, none⟩ : Addr).add 2) = some old) ∧ u0_4.frozen? ((⟨w25.heap.size, 0, none⟩ : Addr).add 2) = false ∧
    letW (u0_4.setCell ((⟨w25.heap.size, 0, none⟩ : Addr).add 2) (.int .i64 n25_a_2)) fun u0_5 =>
    (∃ old, u0_5.cell? ((⟨w25.heap.size, 0, none⟩ : Addr).add 3) = some old) ∧ u0_5.frozen? ((⟨w25.heap.size, 0, none⟩ : Addr).add 3) = false ∧
    letW (u0_5.setCell ((⟨w25.heap.size, 0, none⟩ : Addr).add 3) (.int .i64 n25_a_3)) fun u0_6 =>
    bcase b25_b (
     u0_6.heap[(w14.heap.size + 1)]? = some (rec .busy none) ∧ R' (.returned (.bool true)) (u0_6.putObj (w14.heap.size + 1) (rec .ready none)))
    (ptrW c0 fun a30 =>
     ∃ p30 : Option Addr, u0_6.cell? a30 = some (.pointer p30) ∧
     ptrW p30 fun a31 =>
     ∃ p33 : Option Addr, u0_6.cell? (a31.add 1) = some (.pointer p33) ∧
     Calls P F.«dedup_Table_Get» ⟨[.pointer p33, .int .u32 n15]⟩ u0_6 fun e35 w35 => ∃ s35_a : ByteArray, ∃ n35_b : Int, ∃ n35_c : Int, ∃ b35_d : Bool, e35 = .returned (.tuple ⟨[.string s35_a, .int .i64 n35_b, .int .i64 n35_c, .bool b35_d]⟩) ∧
     ptrW c0 fun a40 =>
     ∃ p40 : Option Addr, w35.cell? a40 = some (.pointer p40) ∧
     ptrW p40 fun a41 =>
     ∃ p43 : Option Addr, w35.cell? (a41.add 0) = some (.pointer p43) ∧
     ptrW p43 fun a44 =>
     ∃ p46 : Option Addr, w35.cell? (a44.add 0) = some (.pointer p46) ∧
     Calls P F.«line_Line_Write» ⟨[.pointer p46, .int .i64 n35_b, .string s35_a]⟩ w35 fun e49 w49 => ∃ n49 : Int, e49 = .returned (.int .i64 n49) ∧
     bcase (n49 != 0) (
      (∃ old, w49.cell? ((⟨w.heap.size, 0, none⟩ : Addr).add 0) = some old) ∧ w49.frozen? ((⟨w.heap.size, 0, none⟩ : Addr).add 0) = false ∧
      letW (w49.setCell ((⟨w.heap.size, 0, none⟩ : Addr).add 0) (.int .i64 n49)) fun u0_7 =>
      u0_7.heap[(w14.heap.size + 1)]? = some (rec .busy none) ∧ R' (.returned (.bool false)) (u0_7.putObj (w14.heap.size + 1) (rec .done (some .ret))))
     (w49.heap[(w14.heap.size + 1)]? = some (rec .busy none) ∧ R' (.returned (.bool true)) (w49.putObj (w14.heap.size + 1) (rec .ready none))))) → callV P Bd y [.int .u32 n15] wr R') →
  Calls P gf ⟨first ++ [y] ++ caps⟩ ((w14.alloc (.deferred (some []))).alloc (rec .ready none)) fun ef wf => (∃ v, ef = .returned v) ∧
  (((∃ stj, stj ≠ .busy ∧ wf.heap[(w14.heap.size + 1)]? = some (rec stj none) ∧
     letW (wf.putObj (w14.heap.size + 1) (rec .exhausted none)) fun u0_8 =>
     ptrW c0 fun a53 =>
     ∃ p53 : Option Addr, u0_8.cell? a53 = some (.pointer p53) ∧
     ptrW p53 fun a54 =>
     ∃ p56 : Option Addr, u0_8.cell? (a54.add 0) = some (.pointer p56) ∧
     ptrW p56 fun a57 =>
     ∃ p59 : Option Addr, u0_8.cell? (a57.add 0) = some (.pointer p59) ∧
     Calls P F.«line_Line_Flush» ⟨[.pointer p59]⟩ u0_8 fun e60 w60 => ∃ n60 : Int, e60 = .returned (.int .i64 n60) ∧
     (∃ old, w60.cell? ((⟨w.heap.size, 0, none⟩ : Addr).add 0) = some old) ∧ w60.frozen? ((⟨w.heap.size, 0, none⟩ : Addr).add 0) = false ∧
     letW (w60.setCell ((⟨w.heap.size, 0, none⟩ : Addr).add 0) (.int .i64 n60)) fun u0_9 =>
     u0_9.heap[w14.heap.size]? = some (.deferred (some [])) ∧
     letW (u0_9.putObj w14.heap.size (.deferred none)) fun u0_10 =>
     ∃ nr0 : Int, u0_10.cell? ⟨w.heap.size, 0, none⟩ = some (.int .i64 nr0) ∧
     R (.returned (.int .i64 nr0)) u0_10) ∨ (∃ stj, stj ≠ .busy ∧ wf.heap[(w14.heap.size + 1)]? = some (rec stj (some .ret)) ∧
     letW (wf.putObj (w14.heap.size + 1) (rec .exhausted (some .ret))) fun u0_11 =>
     u0_11.heap[w14.heap.size]? = some (.deferred (some [])) ∧
     letW (u0_11.putObj w14.heap.size (.deferred none)) fun u0_12 =>
     ∃ nr0_1 : Int, u0_12.cell? ⟨w.heap.size, 0, none⟩ = some (.int .i64 nr0_1) ∧
     R (.returned (.int .i64 nr0_1)) u0_12))))
def plan_pool_Plan_Write_1 : Plan := { loops := fun i => match i with | _ => ([], []), cuts := fun i => match i with | _ => none, head := fun i => match i with | _ => none, rng := fun i => match i with | 3 => [(.int .u32)] | _ => [] }
theorem ok_pool_Plan_Write_1 {c0 : Option Addr} {R : Ending → World → Prop} {w : World} (h : V_pool_Plan_Write_1 c0 R w) : Calls P F.«pool_Plan_Write_1» ⟨[.pointer c0]⟩ w R :=
  calls_of_vc tabOk bdOk mixed (fn := Tryz.f104) (c := bodyOf Tryz.f104) (pl := plan_pool_Plan_Write_1) Tryz.func104 (by kernel_rfl) (Nat.le_of_ble_eq_true (by kernel_rfl)) (by kernel_rfl)
    (Eq.mp (show V_pool_Plan_Write_1 c0 R w = vcFun P Tb Bd plan_pool_Plan_Write_1 (raw Tryz.f104.ntmps) Tryz.f104.results.toList (bodyOf Tryz.f104) [.pointer c0] R w by kernel_rfl) h)

def V_line_Line_Flush (l0 : Option Addr) (R : Ending → World → Prop) (w : World) : Prop :=
 letW (w.alloc (.cells ⟨[.pointer l0]⟩ T.«p_line_Line»)) fun u0 =>
 ∃ p3 : Option Addr, u0.cell? ⟨w.heap.size, 0, none⟩ = some (.pointer p3) ∧
 Calls P F.«line_Line_act» ⟨[.pointer p3, .func (.func F.«line_Line_Flush_1») ⟨[]⟩ ⟨[.pointer (some ⟨w.heap.size, 0, none⟩)]⟩]⟩ u0 fun e5 w5 => ∃ n5 : Int, e5 = .returned (.int .i64 n5) ∧
 R (.returned (.int .i64 n5)) w5
def plan_line_Line_Flush : Plan := { loops := fun i => match i with | _ => ([], []), cuts := fun i => match i with | _ => none, head := fun i => match i with | _ => none, rng := fun i => match i with | _ => [] }
theorem ok_line_Line_Flush {l0 : Option Addr} {R : Ending → World → Prop} {w : World} (h : V_line_Line_Flush l0 R w) : Calls P F.«line_Line_Flush» ⟨[.pointer l0]⟩ w R :=
  calls_of_vc tabOk bdOk mixed (fn := Tryz.f105) (c := bodyOf Tryz.f105) (pl := plan_line_Line_Flush) Tryz.func105 (by kernel_rfl) (Nat.le_of_ble_eq_true (by kernel_rfl)) (by kernel_rfl)
    (Eq.mp (show V_line_Line_Flush l0 R w = vcFun P Tb Bd plan_line_Line_Flush (raw Tryz.f105.ntmps) Tryz.f105.results.toList (bodyOf Tryz.f105) [.pointer l0] R w by kernel_rfl) h)

def V_dedup_Table_All_1 (yield0 : Value) (c1 : Option Addr) (R : Ending → World → Prop) (w : World) : Prop :=
 ptrW c1 fun a5 =>
 ∃ p5 : Option Addr, w.cell? a5 = some (.pointer p5) ∧
 Calls P F.«dedup_Table_is» ⟨[.pointer p5]⟩ w fun e6 w6 => ∃ b6 : Bool, e6 = .returned (.bool b6) ∧
 bcase (!b6) (
  R (.returned (.tuple ⟨[]⟩)) w6)
 (ptrW c1 fun a8 =>
  ∃ p8 : Option Addr, w6.cell? a8 = some (.pointer p8) ∧
  ptrW p8 fun a9 =>
  ∃ m11 : Option Nat, w6.cell? (a9.add 0) = some (.map m11) ∧
  Calls P F.«maps_Keys_map_uint32_dedup_chunk_uint32_dedup_chunk» ⟨[.map m11]⟩ w6 fun e12 w12 => ∃ v12 : Value, e12 = .returned (v12) ∧
  Calls P F.«slices_Sorted_uint32» ⟨[v12]⟩ w12 fun e13 w13 => ∃ (a13 : Option Addr) (l13 c13 : Nat), e13 = .returned (.slice a13 l13 c13) ∧
  ∃ (I2 : Tup [(15, (.int .i64))] → World → Prop) (μ2 : Tup [(15, (.int .i64))] → World → Nat), I2 (0, ()) w13 ∧
  ∀ (junk2 : St) (n15 : Int) (wL2 : World), I2 (n15, ()) wL2 →
  bcase (decide (n15 < (l13 : Int))) (
   (0 ≤ n15 ∧ n15 < (l13 : Int)) ∧
   ptrW a13 fun a17 =>
   ∃ n18 : Int, wL2.cell? (a17.add (n15.toNat * 1)) = some (.int .u32 n18) ∧
   callV P Bd yield0 [.int .u32 n18] wL2 fun e21 w21 => ∃ b21 : Bool, e21 = .returned (.bool b21) ∧
   bcase (!b21) (
    R (.returned (.tuple ⟨[]⟩)) w21)
   (I2 ((IntKind.wrap .i64 (n15 + 1)), ()) w21 ∧ μ2 ((IntKind.wrap .i64 (n15 + 1)), ()) w21 < μ2 (n15, ()) wL2))
  (R (.returned (.tuple ⟨[]⟩)) wL2))
def plan_dedup_Table_All_1 : Plan := { loops := fun i => match i with | 32 => ([(15, (.int .i64))], [4, 15, 16, 17, 18, 19, 20, 21, 22, 23]) | _ => ([], []), cuts := fun i => match i with | _ => none, head := fun i => match i with | _ => none, rng := fun i => match i with | _ => [] }
theorem ok_dedup_Table_All_1 {yield0 : Value} {c1 : Option Addr} {R : Ending → World → Prop} {w : World} (h : V_dedup_Table_All_1 yield0 c1 R w) : Calls P F.«dedup_Table_All_1» ⟨[yield0, .pointer c1]⟩ w R :=
  calls_of_vc tabOk bdOk mixed (fn := Tryz.f106) (c := bodyOf Tryz.f106) (pl := plan_dedup_Table_All_1) Tryz.func106 (by kernel_rfl) (Nat.le_of_ble_eq_true (by kernel_rfl)) (by kernel_rfl)
    (Eq.mp (show V_dedup_Table_All_1 yield0 c1 R w = vcFun P Tb Bd plan_dedup_Table_All_1 (raw Tryz.f106.ntmps) Tryz.f106.results.toList (bodyOf Tryz.f106) [yield0, .pointer c1] R w by kernel_rfl) h)

def V_slices_Sorted_uint32 (seq0 : Value) (R : Ending → World → Prop) (w : World) : Prop :=
 Calls P F.«slices_Collect_uint32» ⟨[seq0]⟩ w fun e5 w5 => ∃ (a5 : Option Addr) (l5 c5 : Nat), e5 = .returned (.slice a5 l5 c5) ∧
 Calls P F.«slices_Sort_sl_uint32_uint32» ⟨[.slice a5 l5 c5]⟩ w5 fun e7 w7 => e7 = .returned (.tuple ⟨[]⟩) ∧
 R (.returned (.slice a5 l5 c5)) w7
def plan_slices_Sorted_uint32 : Plan := { loops := fun i => match i with | _ => ([], []), cuts := fun i => match i with | _ => none, head := fun i => match i with | _ => none, rng := fun i => match i with | _ => [] }
theorem ok_slices_Sorted_uint32 {seq0 : Value} {R : Ending → World → Prop} {w : World} (h : V_slices_Sorted_uint32 seq0 R w) : Calls P F.«slices_Sorted_uint32» ⟨[seq0]⟩ w R :=
  calls_of_vc tabOk bdOk mixed (fn := Tryz.f107) (c := bodyOf Tryz.f107) (pl := plan_slices_Sorted_uint32) Tryz.func107 (by kernel_rfl) (Nat.le_of_ble_eq_true (by kernel_rfl)) (by kernel_rfl)
    (Eq.mp (show V_slices_Sorted_uint32 seq0 R w = vcFun P Tb Bd plan_slices_Sorted_uint32 (raw Tryz.f107.ntmps) Tryz.f107.results.toList (bodyOf Tryz.f107) [seq0] R w by kernel_rfl) h)

def V_maps_Keys_map_uint32_dedup_chunk_uint32_dedup_chunk (m0 : Option Nat) (R : Ending → World → Prop) (w : World) : Prop :=
 letW (w.alloc (.cells ⟨[.map m0]⟩ T.«m_u32_dedup_chunk»)) fun u0 =>
 R (.returned (.func (.func F.«maps_Keys_map_uint32_dedup_chunk_uint32_dedup_chunk_1») ⟨[]⟩ ⟨[.pointer (some ⟨w.heap.size, 0, none⟩)]⟩)) u0
def plan_maps_Keys_map_uint32_dedup_chunk_uint32_dedup_chunk : Plan := { loops := fun i => match i with | _ => ([], []), cuts := fun i => match i with | _ => none, head := fun i => match i with | _ => none, rng := fun i => match i with | _ => [] }
theorem ok_maps_Keys_map_uint32_dedup_chunk_uint32_dedup_chunk {m0 : Option Nat} {R : Ending → World → Prop} {w : World} (h : V_maps_Keys_map_uint32_dedup_chunk_uint32_dedup_chunk m0 R w) : Calls P F.«maps_Keys_map_uint32_dedup_chunk_uint32_dedup_chunk» ⟨[.map m0]⟩ w R :=
  calls_of_vc tabOk bdOk mixed (fn := Tryz.f108) (c := bodyOf Tryz.f108) (pl := plan_maps_Keys_map_uint32_dedup_chunk_uint32_dedup_chunk) Tryz.func108 (by kernel_rfl) (Nat.le_of_ble_eq_true (by kernel_rfl)) (by kernel_rfl)
    (Eq.mp (show V_maps_Keys_map_uint32_dedup_chunk_uint32_dedup_chunk m0 R w = vcFun P Tb Bd plan_maps_Keys_map_uint32_dedup_chunk_uint32_dedup_chunk (raw Tryz.f108.ntmps) Tryz.f108.results.toList (bodyOf Tryz.f108) [.map m0] R w by kernel_rfl) h)

def V_dedup_Table_find (t0 : Option Addr) (id1 : Int) (R : Ending → World → Prop) (w : World) : Prop :=
 letW (w.alloc (.cells ⟨[(.string (bs [])), (.int .i64 0), (.int .i64 0)]⟩ T.«dedup_chunk»)) fun u0 =>
 Calls P F.«dedup_Table_is» ⟨[.pointer t0]⟩ u0 fun e9 w9 => ∃ b9 : Bool, e9 = .returned (.bool b9) ∧
 bcase (!b9) (
  (∃ old, w9.cell? ((⟨w.heap.size, 0, none⟩ : Addr).add 0) = some old) ∧ w9.frozen? ((⟨w.heap.size, 0, none⟩ : Addr).add 0) = false ∧
  letW (w9.setCell ((⟨w.heap.size, 0, none⟩ : Addr).add 0) (.string (bs []))) fun u0_1 =>
  (∃ old, u0_1.cell? ((⟨w.heap.size, 0, none⟩ : Addr).add 1) = some old) ∧ u0_1.frozen? ((⟨w.heap.size, 0, none⟩ : Addr).add 1) = false ∧
  letW (u0_1.setCell ((⟨w.heap.size, 0, none⟩ : Addr).add 1) (.int .i64 0)) fun u0_2 =>
  (∃ old, u0_2.cell? ((⟨w.heap.size, 0, none⟩ : Addr).add 2) = some old) ∧ u0_2.frozen? ((⟨w.heap.size, 0, none⟩ : Addr).add 2) = false ∧
  letW (u0_2.setCell ((⟨w.heap.size, 0, none⟩ : Addr).add 2) (.int .i64 0)) fun u0_3 =>
  ∃ sr0_0 : ByteArray, ∃ nr0_1 : Int, ∃ nr0_2 : Int, (u0_3.cell? ((⟨w.heap.size, 0, none⟩ : Addr).add 0) = some (.string sr0_0) ∧ u0_3.cell? ((⟨w.heap.size, 0, none⟩ : Addr).add 1) = some (.int .i64 nr0_1) ∧ u0_3.cell? ((⟨w.heap.size, 0, none⟩ : Addr).add 2) = some (.int .i64 nr0_2) ∧ True) ∧
  R (.returned (.tuple ⟨[.agg ⟨[.string sr0_0, .int .i64 nr0_1, .int .i64 nr0_2]⟩, .int .i64 1]⟩)) u0_3)
 (ptrW t0 fun a14 =>
  ∃ m16 : Option Nat, w9.cell? (a14.add 0) = some (.map m16) ∧
  ∃ es18 : List MapEntry, mapAt w9 m16 es18 ∧ keysLike (.int .u32 id1) es18 ∧
  ∃ s18_0 : ByteArray, ∃ n18_1 : Int, ∃ n18_2 : Int, ∃ ok18 : Bool, mfind (.int .u32 id1) es18 = (if ok18 then some (.agg ⟨[.string s18_0, .int .i64 n18_1, .int .i64 n18_2]⟩) else none) ∧ (ok18 = false → (.agg ⟨[.string s18_0, .int .i64 n18_1, .int .i64 n18_2]⟩ : Value) = .agg ⟨[.string (bs []), .int .i64 0, .int .i64 0]⟩) ∧
  letW (w9.alloc (.cells ⟨[(.string (bs [])), (.int .i64 0), (.int .i64 0)]⟩ T.«dedup_chunk»)) fun u0_4 =>
  (∃ old, u0_4.cell? ((⟨w9.heap.size, 0, none⟩ : Addr).add 0) = some old) ∧ u0_4.frozen? ((⟨w9.heap.size, 0, none⟩ : Addr).add 0) = false ∧
  letW (u0_4.setCell ((⟨w9.heap.size, 0, none⟩ : Addr).add 0) (.string s18_0)) fun u0_5 =>
  (∃ old, u0_5.cell? ((⟨w9.heap.size, 0, none⟩ : Addr).add 1) = some old) ∧ u0_5.frozen? ((⟨w9.heap.size, 0, none⟩ : Addr).add 1) = false ∧
  letW (u0_5.setCell ((⟨w9.heap.size, 0, none⟩ : Addr).add 1) (.int .i64 n18_1)) fun u0_6 =>
  (∃ old, u0_6.cell? ((⟨w9.heap.size, 0, none⟩ : Addr).add 2) = some old) ∧ u0_6.frozen? ((⟨w9.heap.size, 0, none⟩ : Addr).add 2) = false ∧
  letW (u0_6.setCell ((⟨w9.heap.size, 0, none⟩ : Addr).add 2) (.int .i64 n18_2)) fun u0_7 =>
  bcase (!ok18) (
   (∃ old, u0_7.cell? ((⟨w.heap.size, 0, none⟩ : Addr).add 0) = some old) ∧ u0_7.frozen? ((⟨w.heap.size, 0, none⟩ : Addr).add 0) = false ∧
   letW (u0_7.setCell ((⟨w.heap.size, 0, none⟩ : Addr).add 0) (.string (bs []))) fun u0_8 =>
   (∃ old, u0_8.cell? ((⟨w.heap.size, 0, none⟩ : Addr).add 1) = some old) ∧ u0_8.frozen? ((⟨w.heap.size, 0, none⟩ : Addr).add 1) = false ∧
   letW (u0_8.setCell ((⟨w.heap.size, 0, none⟩ : Addr).add 1) (.int .i64 0)) fun u0_9 =>
   (∃ old, u0_9.cell? ((⟨w.heap.size, 0, none⟩ : Addr).add 2) = some old) ∧ u0_9.frozen? ((⟨w.heap.size, 0, none⟩ : Addr).add 2) = false ∧
   letW (u0_9.setCell ((⟨w.heap.size, 0, none⟩ : Addr).add 2) (.int .i64 0)) fun u0_10 =>
   ∃ sr0_0_1 : ByteArray, ∃ nr0_1_1 : Int, ∃ nr0_2_1 : Int, (u0_10.cell? ((⟨w.heap.size, 0, none⟩ : Addr).add 0) = some (.string sr0_0_1) ∧ u0_10.cell? ((⟨w.heap.size, 0, none⟩ : Addr).add 1) = some (.int .i64 nr0_1_1) ∧ u0_10.cell? ((⟨w.heap.size, 0, none⟩ : Addr).add 2) = some (.int .i64 nr0_2_1) ∧ True) ∧
   R (.returned (.tuple ⟨[.agg ⟨[.string sr0_0_1, .int .i64 nr0_1_1, .int .i64 nr0_2_1]⟩, .int .i64 5]⟩)) u0_10)
  (∃ s24_0 : ByteArray, ∃ n24_1 : Int, ∃ n24_2 : Int, (u0_7.cell? ((⟨w9.heap.size, 0, none⟩ : Addr).add 0) = some (.string s24_0) ∧ u0_7.cell? ((⟨w9.heap.size, 0, none⟩ : Addr).add 1) = some (.int .i64 n24_1) ∧ u0_7.cell? ((⟨w9.heap.size, 0, none⟩ : Addr).add 2) = some (.int .i64 n24_2) ∧ True) ∧
   (∃ old, u0_7.cell? ((⟨w.heap.size, 0, none⟩ : Addr).add 0) = some old) ∧ u0_7.frozen? ((⟨w.heap.size, 0, none⟩ : Addr).add 0) = false ∧
   letW (u0_7.setCell ((⟨w.heap.size, 0, none⟩ : Addr).add 0) (.string s24_0)) fun u0_11 =>
   (∃ old, u0_11.cell? ((⟨w.heap.size, 0, none⟩ : Addr).add 1) = some old) ∧ u0_11.frozen? ((⟨w.heap.size, 0, none⟩ : Addr).add 1) = false ∧
   letW (u0_11.setCell ((⟨w.heap.size, 0, none⟩ : Addr).add 1) (.int .i64 n24_1)) fun u0_12 =>
   (∃ old, u0_12.cell? ((⟨w.heap.size, 0, none⟩ : Addr).add 2) = some old) ∧ u0_12.frozen? ((⟨w.heap.size, 0, none⟩ : Addr).add 2) = false ∧
   letW (u0_12.setCell ((⟨w.heap.size, 0, none⟩ : Addr).add 2) (.int .i64 n24_2)) fun u0_13 =>
   ∃ sr0_0_2 : ByteArray, ∃ nr0_1_2 : Int, ∃ nr0_2_2 : Int, (u0_13.cell? ((⟨w.heap.size, 0, none⟩ : Addr).add 0) = some (.string sr0_0_2) ∧ u0_13.cell? ((⟨w.heap.size, 0, none⟩ : Addr).add 1) = some (.int .i64 nr0_1_2) ∧ u0_13.cell? ((⟨w.heap.size, 0, none⟩ : Addr).add 2) = some (.int .i64 nr0_2_2) ∧ True) ∧
   R (.returned (.tuple ⟨[.agg ⟨[.string sr0_0_2, .int .i64 nr0_1_2, .int .i64 nr0_2_2]⟩, .int .i64 0]⟩)) u0_13))
def plan_dedup_Table_find : Plan := { loops := fun i => match i with | _ => ([], []), cuts := fun i => match i with | _ => none, head := fun i => match i with | _ => none, rng := fun i => match i with | _ => [] }
theorem ok_dedup_Table_find {t0 : Option Addr} {id1 : Int} {R : Ending → World → Prop} {w : World} (h : V_dedup_Table_find t0 id1 R w) : Calls P F.«dedup_Table_find» ⟨[.pointer t0, .int .u32 id1]⟩ w R :=
  calls_of_vc tabOk bdOk mixed (fn := Tryz.f109) (c := bodyOf Tryz.f109) (pl := plan_dedup_Table_find) Tryz.func109 (by kernel_rfl) (Nat.le_of_ble_eq_true (by kernel_rfl)) (by kernel_rfl)
    (Eq.mp (show V_dedup_Table_find t0 id1 R w = vcFun P Tb Bd plan_dedup_Table_find (raw Tryz.f109.ntmps) Tryz.f109.results.toList (bodyOf Tryz.f109) [.pointer t0, .int .u32 id1] R w by kernel_rfl) h)

def V_space_Space_rules (s0 : Option Addr) (atx1 : Int) (R : Ending → World → Prop) (w : World) : Prop :=
 Calls P F.«space_Space_is» ⟨[.pointer s0]⟩ w fun e7 w7 => ∃ b7 : Bool, e7 = .returned (.bool b7) ∧
 bcase (!b7) (
  R (.returned (.int .i64 1)) w7)
 (ptrW s0 fun a12 =>
  ∃ n14 : Int, w7.cell? (a12.add 0) = some (.int .i64 n14) ∧
  bcase (decide (atx1 < n14)) (
   R (.returned (.int .i64 2)) w7)
  (ptrW s0 fun a19 =>
   ∃ n21 : Int, w7.cell? (a19.add 1) = some (.int .i64 n21) ∧
   bcase (decide (atx1 ≥ n21)) (
    R (.returned (.int .i64 2)) w7)
   (R (.returned (.int .i64 0)) w7)))
def plan_space_Space_rules : Plan := { loops := fun i => match i with | _ => ([], []), cuts := fun i => match i with | _ => none, head := fun i => match i with | _ => none, rng := fun i => match i with | _ => [] }
theorem ok_space_Space_rules {s0 : Option Addr} {atx1 : Int} {R : Ending → World → Prop} {w : World} (h : V_space_Space_rules s0 atx1 R w) : Calls P F.«space_Space_rules» ⟨[.pointer s0, .int .i64 atx1]⟩ w R :=
  calls_of_vc tabOk bdOk mixed (fn := Tryz.f110) (c := bodyOf Tryz.f110) (pl := plan_space_Space_rules) Tryz.func110 (by kernel_rfl) (Nat.le_of_ble_eq_true (by kernel_rfl)) (by kernel_rfl)
    (Eq.mp (show V_space_Space_rules s0 atx1 R w = vcFun P Tb Bd plan_space_Space_rules (raw Tryz.f110.ntmps) Tryz.f110.results.toList (bodyOf Tryz.f110) [.pointer s0, .int .i64 atx1] R w by kernel_rfl) h)

def V_space_Space_bit (s0 : Option Addr) (atx1 : Int) (R : Ending → World → Prop) (w : World) : Prop :=
 ptrW s0 fun a7 =>
 ∃ (a9 : Option Addr) (l9 c9 : Nat), w.cell? (a7.add 2) = some (.slice a9 l9 c9) ∧
 (256 : Int) ≠ 0 ∧ (256 : Int) ≠ 0 ∧ (64 : Int) ≠ 0 ∧ (0 ≤ (IntKind.wrap .i64 (Int.tdiv atx1 256)) ∧ (IntKind.wrap .i64 (Int.tdiv atx1 256)) < (l9 : Int)) ∧
 ptrW a9 fun a15 =>
 (0 ≤ (IntKind.wrap .i64 (Int.tdiv (Int.tmod atx1 256) 64)) ∧ (IntKind.wrap .i64 (Int.tdiv (Int.tmod atx1 256) 64)) < ((4 : Nat) : Int)) ∧
 (64 : Int) ≠ 0 ∧ 0 ≤ (Int.tmod atx1 64) ∧
 ∀ wd1, Drew w wd1 →
 R (.returned (.tuple ⟨[.pointer (some ((a15.add ((IntKind.wrap .i64 (Int.tdiv atx1 256)).toNat * 4)).add ((IntKind.wrap .i64 (Int.tdiv (Int.tmod atx1 256) 64)).toNat * 1))), .int .u64 (IntKind.wrap .u64 (1 * 2 ^ (min (Int.tmod atx1 64).toNat (IntKind.bits .u64))))]⟩)) wd1
def plan_space_Space_bit : Plan := { loops := fun i => match i with | _ => ([], []), cuts := fun i => match i with | _ => none, head := fun i => match i with | 1 => some ([], [0, 1, 2, 3, 4, 5, 6, 7, 8, 9, 10, 11, 12, 13, 14, 15], []) | _ => none, rng := fun i => match i with | _ => [] }
theorem ok_space_Space_bit {s0 : Option Addr} {atx1 : Int} {R : Ending → World → Prop} {w : World} (h : V_space_Space_bit s0 atx1 R w) : Calls P F.«space_Space_bit» ⟨[.pointer s0, .int .i64 atx1]⟩ w R :=
  calls_of_vc tabOk bdOk mixed (fn := Tryz.f111) (c := bodyOf Tryz.f111) (pl := plan_space_Space_bit) Tryz.func111 (by kernel_rfl) (Nat.le_of_ble_eq_true (by kernel_rfl)) (by kernel_rfl)
    (Eq.mp (show V_space_Space_bit s0 atx1 R w = vcFun P Tb Bd plan_space_Space_bit (raw Tryz.f111.ntmps) Tryz.f111.results.toList (bodyOf Tryz.f111) [.pointer s0, .int .i64 atx1] R w by kernel_rfl) h)

def V_space_Space_All (s0 : Option Addr) (R : Ending → World → Prop) (w : World) : Prop :=
 letW (w.alloc (.cells ⟨[.pointer s0]⟩ T.«p_space_Space»)) fun u0 =>
 R (.returned (.func (.func F.«space_Space_All_1») ⟨[]⟩ ⟨[.pointer (some ⟨w.heap.size, 0, none⟩)]⟩)) u0
def plan_space_Space_All : Plan := { loops := fun i => match i with | _ => ([], []), cuts := fun i => match i with | _ => none, head := fun i => match i with | _ => none, rng := fun i => match i with | _ => [] }
theorem ok_space_Space_All {s0 : Option Addr} {R : Ending → World → Prop} {w : World} (h : V_space_Space_All s0 R w) : Calls P F.«space_Space_All» ⟨[.pointer s0]⟩ w R :=
  calls_of_vc tabOk bdOk mixed (fn := Tryz.f112) (c := bodyOf Tryz.f112) (pl := plan_space_Space_All) Tryz.func112 (by kernel_rfl) (Nat.le_of_ble_eq_true (by kernel_rfl)) (by kernel_rfl)
    (Eq.mp (show V_space_Space_All s0 R w = vcFun P Tb Bd plan_space_Space_All (raw Tryz.f112.ntmps) Tryz.f112.results.toList (bodyOf Tryz.f112) [.pointer s0] R w by kernel_rfl) h)

def V_pool_Plan_try_1 (c0 : Option Addr) (c1 : Option Addr) (R : Ending → World → Prop) (w : World) : Prop :=
 ptrW c0 fun a2 =>
 ∃ p2 : Option Addr, w.cell? a2 = some (.pointer p2) ∧
 ptrW c0 fun a3 =>
 ∃ p3 : Option Addr, w.cell? a3 = some (.pointer p3) ∧
 ptrW p3 fun a4 =>
 ∃ b6 : Bool, w.cell? (a4.add 3) = some (.bool b6) ∧
 bcase b6 (
  ptrW p2 fun a11 =>
  ∀ wd0, Drew w wd0 →
  (∃ old, wd0.cell? ((a11.add 3).add 0) = some old) ∧ wd0.frozen? ((a11.add 3).add 0) = false ∧
  letW (wd0.setCell ((a11.add 3).add 0) (.bool true)) fun u0 =>
  R (.returned (.tuple ⟨[]⟩)) u0)
 (ptrW c1 fun a8 =>
  ∃ n8 : Int, w.cell? a8 = some (.int .i64 n8) ∧
  ptrW p2 fun a11_1 =>
  ∀ wd0, Drew w wd0 →
  (∃ old, wd0.cell? ((a11_1.add 3).add 0) = some old) ∧ wd0.frozen? ((a11_1.add 3).add 0) = false ∧
  letW (wd0.setCell ((a11_1.add 3).add 0) (.bool (n8 != 0))) fun u0_1 =>
  R (.returned (.tuple ⟨[]⟩)) u0_1)
def plan_pool_Plan_try_1 : Plan := { loops := fun i => match i with | _ => ([], []), cuts := fun i => match i with | _ => none, head := fun i => match i with | 0 => some ([], [0, 1, 2, 3, 4, 5, 6, 7, 8, 9, 10], [11]) | _ => none, rng := fun i => match i with | _ => [] }
theorem ok_pool_Plan_try_1 {c0 : Option Addr} {c1 : Option Addr} {R : Ending → World → Prop} {w : World} (h : V_pool_Plan_try_1 c0 c1 R w) : Calls P F.«pool_Plan_try_1» ⟨[.pointer c0, .pointer c1]⟩ w R :=
  calls_of_vc tabOk bdOk mixed (fn := Tryz.f113) (c := bodyOf Tryz.f113) (pl := plan_pool_Plan_try_1) Tryz.func113 (by kernel_rfl) (Nat.le_of_ble_eq_true (by kernel_rfl)) (by kernel_rfl)
    (Eq.mp (show V_pool_Plan_try_1 c0 c1 R w = vcFun P Tb Bd plan_pool_Plan_try_1 (raw Tryz.f113.ntmps) Tryz.f113.results.toList (bodyOf Tryz.f113) [.pointer c0, .pointer c1] R w by kernel_rfl) h)
theorem okD_pool_Plan_try_1 {c0 : Option Addr} {c1 : Option Addr} {R : Ending → World → Prop} {w : World} (h : V_pool_Plan_try_1 c0 c1 R w) : DCalls P F.«pool_Plan_try_1» ⟨[.pointer c0, .pointer c1]⟩ w R :=
  dcalls_of_vc tabOk bdOk mixed (fn := Tryz.f113) (c := bodyOf Tryz.f113) (pl := plan_pool_Plan_try_1) Tryz.func113 (by kernel_rfl) (Nat.le_of_ble_eq_true (by kernel_rfl)) (by kernel_rfl)
    (Eq.mp (show V_pool_Plan_try_1 c0 c1 R w = vcFunD P Tb Bd plan_pool_Plan_try_1 (rawD Tryz.f113.ntmps) Tryz.f113.results.toList (bodyOf Tryz.f113) [.pointer c0, .pointer c1] R w by kernel_rfl) h)

def V_dedup_Table_Find (t0 : Option Addr) (data1 : ByteArray) (R : Ending → World → Prop) (w : World) : Prop :=
 Calls P F.«dedup_Table_is» ⟨[.pointer t0]⟩ w fun e9 w9 => ∃ b9 : Bool, e9 = .returned (.bool b9) ∧
 bcase (!b9) (
  R (.returned (.tuple ⟨[.int .u32 0, .bool false]⟩)) w9)
 (ptrW t0 fun a12 =>
  ∃ p14 : Option Addr, w9.cell? (a12.add 1) = some (.pointer p14) ∧
  Calls P F.«hash_Index_Find» ⟨[.pointer p14, .string data1]⟩ w9 fun e16 w16 => ∃ (a16 : Option Addr) (l16 c16 : Nat), e16 = .returned (.slice a16 l16 c16) ∧
  ∃ (I4 : Tup [(18, (.int .i64))] → World → Prop) (μ4 : Tup [(18, (.int .i64))] → World → Nat), I4 (0, ()) w16 ∧
  ∀ (junk4 : St) (n18 : Int) (wL4 : World), I4 (n18, ()) wL4 →
  bcase (decide (n18 < (l16 : Int))) (
   (0 ≤ n18 ∧ n18 < (l16 : Int)) ∧
   ptrW a16 fun a20 =>
   ∃ n21 : Int, wL4.cell? (a20.add (n18.toNat * 1)) = some (.int .u32 n21) ∧
   ptrW t0 fun a23 =>
   ∃ m25 : Option Nat, wL4.cell? (a23.add 0) = some (.map m25) ∧
   ∃ es27 : List MapEntry, mapAt wL4 m25 es27 ∧ keysLike (.int .u32 n21) es27 ∧
   ∃ s27_0 : ByteArray, ∃ n27_1 : Int, ∃ n27_2 : Int, ∃ ok27 : Bool, mfind (.int .u32 n21) es27 = (if ok27 then some (.agg ⟨[.string s27_0, .int .i64 n27_1, .int .i64 n27_2]⟩) else none) ∧ (ok27 = false → (.agg ⟨[.string s27_0, .int .i64 n27_1, .int .i64 n27_2]⟩ : Value) = .agg ⟨[.string (bs []), .int .i64 0, .int .i64 0]⟩) ∧
   bcase (s27_0.toList == data1.toList) (
    R (.returned (.tuple ⟨[.int .u32 n21, .bool true]⟩)) wL4)
   (I4 ((IntKind.wrap .i64 (n18 + 1)), ()) wL4 ∧ μ4 ((IntKind.wrap .i64 (n18 + 1)), ()) wL4 < μ4 (n18, ()) wL4))
  (R (.returned (.tuple ⟨[.int .u32 0, .bool false]⟩)) wL4))
def plan_dedup_Table_Find : Plan := { loops := fun i => match i with | 64 => ([(18, (.int .i64))], [4, 5, 7, 18, 19, 20, 21, 22, 23, 24, 25, 26, 27, 28, 29, 30, 31, 32]) | _ => ([], []), cuts := fun i => match i with | _ => none, head := fun i => match i with | _ => none, rng := fun i => match i with | _ => [] }
theorem ok_dedup_Table_Find {t0 : Option Addr} {data1 : ByteArray} {R : Ending → World → Prop} {w : World} (h : V_dedup_Table_Find t0 data1 R w) : Calls P F.«dedup_Table_Find» ⟨[.pointer t0, .string data1]⟩ w R :=
  calls_of_vc tabOk bdOk mixed (fn := Tryz.f114) (c := bodyOf Tryz.f114) (pl := plan_dedup_Table_Find) Tryz.func114 (by kernel_rfl) (Nat.le_of_ble_eq_true (by kernel_rfl)) (by kernel_rfl)
    (Eq.mp (show V_dedup_Table_Find t0 data1 R w = vcFun P Tb Bd plan_dedup_Table_Find (raw Tryz.f114.ntmps) Tryz.f114.results.toList (bodyOf Tryz.f114) [.pointer t0, .string data1] R w by kernel_rfl) h)

def V_dedup_Table_Hold (t0 : Option Addr) (id1 : Int) (R : Ending → World → Prop) (w : World) : Prop :=
 Calls P F.«dedup_Table_find» ⟨[.pointer t0, .int .u32 id1]⟩ w fun e10 w10 => ∃ s10_a_0 : ByteArray, ∃ n10_a_1 : Int, ∃ n10_a_2 : Int, ∃ n10_b : Int, e10 = .returned (.tuple ⟨[.agg ⟨[.string s10_a_0, .int .i64 n10_a_1, .int .i64 n10_a_2]⟩, .int .i64 n10_b]⟩) ∧
 letW (w10.alloc (.cells ⟨[(.string (bs [])), (.int .i64 0), (.int .i64 0)]⟩ T.«dedup_chunk»)) fun u0 =>
 (∃ old, u0.cell? ((⟨w10.heap.size, 0, none⟩ : Addr).add 0) = some old) ∧ u0.frozen? ((⟨w10.heap.size, 0, none⟩ : Addr).add 0) = false ∧
 letW (u0.setCell ((⟨w10.heap.size, 0, none⟩ : Addr).add 0) (.string s10_a_0)) fun u0_1 =>
 (∃ old, u0_1.cell? ((⟨w10.heap.size, 0, none⟩ : Addr).add 1) = some old) ∧ u0_1.frozen? ((⟨w10.heap.size, 0, none⟩ : Addr).add 1) = false ∧
 letW (u0_1.setCell ((⟨w10.heap.size, 0, none⟩ : Addr).add 1) (.int .i64 n10_a_1)) fun u0_2 =>
 (∃ old, u0_2.cell? ((⟨w10.heap.size, 0, none⟩ : Addr).add 2) = some old) ∧ u0_2.frozen? ((⟨w10.heap.size, 0, none⟩ : Addr).add 2) = false ∧
 letW (u0_2.setCell ((⟨w10.heap.size, 0, none⟩ : Addr).add 2) (.int .i64 n10_a_2)) fun u0_3 =>
 bcase (n10_b != 0) (
  R (.returned (.int .i64 n10_b)) u0_3)
 (∃ n19 : Int, u0_3.cell? ((⟨w10.heap.size, 0, none⟩ : Addr).add 2) = some (.int .i64 n19) ∧
  bcase (n19 == 65535) (
   R (.returned (.int .i64 12)) u0_3)
  (∃ n22 : Int, u0_3.cell? ((⟨w10.heap.size, 0, none⟩ : Addr).add 2) = some (.int .i64 n22) ∧
   (∃ old, u0_3.cell? (((⟨w10.heap.size, 0, none⟩ : Addr).add 2).add 0) = some old) ∧ u0_3.frozen? (((⟨w10.heap.size, 0, none⟩ : Addr).add 2).add 0) = false ∧
   letW (u0_3.setCell (((⟨w10.heap.size, 0, none⟩ : Addr).add 2).add 0) (.int .i64 (IntKind.wrap .i64 (n22 + 1)))) fun u0_4 =>
   ptrW t0 fun a26 =>
   ∃ m28 : Option Nat, u0_4.cell? (a26.add 0) = some (.map m28) ∧
   ∃ s30_0 : ByteArray, ∃ n30_1 : Int, ∃ n30_2 : Int, (u0_4.cell? ((⟨w10.heap.size, 0, none⟩ : Addr).add 0) = some (.string s30_0) ∧ u0_4.cell? ((⟨w10.heap.size, 0, none⟩ : Addr).add 1) = some (.int .i64 n30_1) ∧ u0_4.cell? ((⟨w10.heap.size, 0, none⟩ : Addr).add 2) = some (.int .i64 n30_2) ∧ True) ∧
   ∀ wd7, Drew u0_4 wd7 →
   ∃ wx6, (Instr.mapUpdate T.«m_u32_dedup_chunk» (.map m28) (.int .u32 id1) (.agg ⟨[.string s30_0, .int .i64 n30_1, .int .i64 n30_2]⟩)).run P wd7 = .ok () wx6 ∧
   R (.returned (.int .i64 0)) wx6))
def plan_dedup_Table_Hold : Plan := { loops := fun i => match i with | _ => ([], []), cuts := fun i => match i with | _ => none, head := fun i => match i with | 7 => some ([], [0, 1, 2, 3, 4, 5], [6]) | _ => none, rng := fun i => match i with | _ => [] }
theorem ok_dedup_Table_Hold {t0 : Option Addr} {id1 : Int} {R : Ending → World → Prop} {w : World} (h : V_dedup_Table_Hold t0 id1 R w) : Calls P F.«dedup_Table_Hold» ⟨[.pointer t0, .int .u32 id1]⟩ w R :=
  calls_of_vc tabOk bdOk mixed (fn := Tryz.f115) (c := bodyOf Tryz.f115) (pl := plan_dedup_Table_Hold) Tryz.func115 (by kernel_rfl) (Nat.le_of_ble_eq_true (by kernel_rfl)) (by kernel_rfl)
    (Eq.mp (show V_dedup_Table_Hold t0 id1 R w = vcFun P Tb Bd plan_dedup_Table_Hold (raw Tryz.f115.ntmps) Tryz.f115.results.toList (bodyOf Tryz.f115) [.pointer t0, .int .u32 id1] R w by kernel_rfl) h)

def V_space_Space_Take (s0 : Option Addr) (R : Ending → World → Prop) (w : World) : Prop :=
 letW (w.alloc (.cells ⟨[.pointer s0]⟩ T.«p_space_Space»)) fun u0 =>
 letW (u0.alloc (.cells ⟨[(.int .i64 0)]⟩ T.«i64'»)) fun u0_1 =>
 letW (u0_1.alloc (.cells ⟨[(.int .i64 0)]⟩ T.«api_Errno»)) fun u0_2 =>
 ∃ p5 : Option Addr, u0_2.cell? ⟨w.heap.size, 0, none⟩ = some (.pointer p5) ∧
 Calls P F.«space_Space_is» ⟨[.pointer p5]⟩ u0_2 fun e6 w6 => ∃ b6 : Bool, e6 = .returned (.bool b6) ∧
 bcase (!b6) (
  (∃ old, w6.cell? ((⟨u0.heap.size, 0, none⟩ : Addr).add 0) = some old) ∧ w6.frozen? ((⟨u0.heap.size, 0, none⟩ : Addr).add 0) = false ∧
  letW (w6.setCell ((⟨u0.heap.size, 0, none⟩ : Addr).add 0) (.int .i64 0)) fun u0_3 =>
  (∃ old, u0_3.cell? ((⟨u0_1.heap.size, 0, none⟩ : Addr).add 0) = some old) ∧ u0_3.frozen? ((⟨u0_1.heap.size, 0, none⟩ : Addr).add 0) = false ∧
  letW (u0_3.setCell ((⟨u0_1.heap.size, 0, none⟩ : Addr).add 0) (.int .i64 1)) fun u0_4 =>
  ∃ nr0 : Int, u0_4.cell? ⟨u0.heap.size, 0, none⟩ = some (.int .i64 nr0) ∧
  ∃ nr1 : Int, u0_4.cell? ⟨u0_1.heap.size, 0, none⟩ = some (.int .i64 nr1) ∧
  R (.returned (.tuple ⟨[.int .i64 nr0, .int .i64 nr1]⟩)) u0_4)
 (∃ p8 : Option Addr, w6.cell? ⟨w.heap.size, 0, none⟩ = some (.pointer p8) ∧
  Calls P F.«space_Space_All» ⟨[.pointer p8]⟩ w6 fun e9 w9 => ∃ v9 : Value, e9 = .returned (v9) ∧
  onFunc v9 fun gf first caps => bW (Bd gf) (∀ (y : Value) (rec : LoopState → Option Code → Obj),
   (∀ R' : Ending → World → Prop, ∀ (n10 : Int), ∀ (wr : World), wr.heap[(w9.heap.size + 1)]? = some (rec .ready none) →
    (wr.heap[(w9.heap.size + 1)]? = some (rec .ready none) ∧
     letW (wr.putObj (w9.heap.size + 1) (rec .busy none)) fun u0_5 =>
     ∃ p11 : Option Addr, u0_5.cell? ⟨w.heap.size, 0, none⟩ = some (.pointer p11) ∧
     Calls P F.«space_Space_Use» ⟨[.pointer p11, .int .i64 n10]⟩ u0_5 fun e13 w13 => ∃ n13 : Int, e13 = .returned (.int .i64 n13) ∧
     (∃ old, w13.cell? ((⟨u0.heap.size, 0, none⟩ : Addr).add 0) = some old) ∧ w13.frozen? ((⟨u0.heap.size, 0, none⟩ : Addr).add 0) = false ∧
     letW (w13.setCell ((⟨u0.heap.size, 0, none⟩ : Addr).add 0) (.int .i64 n10)) fun u0_6 =>
     (∃ old, u0_6.cell? ((⟨u0_1.heap.size, 0, none⟩ : Addr).add 0) = some old) ∧ u0_6.frozen? ((⟨u0_1.heap.size, 0, none⟩ : Addr).add 0) = false ∧
     letW (u0_6.setCell ((⟨u0_1.heap.size, 0, none⟩ : Addr).add 0) (.int .i64 0)) fun u0_7 =>
     u0_7.heap[(w9.heap.size + 1)]? = some (rec .busy none) ∧ R' (.returned (.bool false)) (u0_7.putObj (w9.heap.size + 1) (rec .done (some .ret)))) → callV P Bd y [.int .i64 n10] wr R') →
   Calls P gf ⟨first ++ [y] ++ caps⟩ ((w9.alloc (.deferred (some []))).alloc (rec .ready none)) fun ef wf => (∃ v, ef = .returned v) ∧
   (((∃ stj, stj ≠ .busy ∧ wf.heap[(w9.heap.size + 1)]? = some (rec stj none) ∧
      letW (wf.putObj (w9.heap.size + 1) (rec .exhausted none)) fun u0_8 =>
      (∃ old, u0_8.cell? ((⟨u0.heap.size, 0, none⟩ : Addr).add 0) = some old) ∧ u0_8.frozen? ((⟨u0.heap.size, 0, none⟩ : Addr).add 0) = false ∧
      letW (u0_8.setCell ((⟨u0.heap.size, 0, none⟩ : Addr).add 0) (.int .i64 0)) fun u0_9 =>
      (∃ old, u0_9.cell? ((⟨u0_1.heap.size, 0, none⟩ : Addr).add 0) = some old) ∧ u0_9.frozen? ((⟨u0_1.heap.size, 0, none⟩ : Addr).add 0) = false ∧
      letW (u0_9.setCell ((⟨u0_1.heap.size, 0, none⟩ : Addr).add 0) (.int .i64 7)) fun u0_10 =>
      u0_10.heap[w9.heap.size]? = some (.deferred (some [])) ∧
      letW (u0_10.putObj w9.heap.size (.deferred none)) fun u0_11 =>
      ∃ nr0_1 : Int, u0_11.cell? ⟨u0.heap.size, 0, none⟩ = some (.int .i64 nr0_1) ∧
      ∃ nr1_1 : Int, u0_11.cell? ⟨u0_1.heap.size, 0, none⟩ = some (.int .i64 nr1_1) ∧
      R (.returned (.tuple ⟨[.int .i64 nr0_1, .int .i64 nr1_1]⟩)) u0_11) ∨ (∃ stj, stj ≠ .busy ∧ wf.heap[(w9.heap.size + 1)]? = some (rec stj (some .ret)) ∧
      letW (wf.putObj (w9.heap.size + 1) (rec .exhausted (some .ret))) fun u0_12 =>
      u0_12.heap[w9.heap.size]? = some (.deferred (some [])) ∧
      letW (u0_12.putObj w9.heap.size (.deferred none)) fun u0_13 =>
      ∃ nr0_2 : Int, u0_13.cell? ⟨u0.heap.size, 0, none⟩ = some (.int .i64 nr0_2) ∧
      ∃ nr1_2 : Int, u0_13.cell? ⟨u0_1.heap.size, 0, none⟩ = some (.int .i64 nr1_2) ∧
      R (.returned (.tuple ⟨[.int .i64 nr0_2, .int .i64 nr1_2]⟩)) u0_13)))))
def plan_space_Space_Take : Plan := { loops := fun i => match i with | _ => ([], []), cuts := fun i => match i with | _ => none, head := fun i => match i with | _ => none, rng := fun i => match i with | 5 => [(.int .i64)] | _ => [] }
theorem ok_space_Space_Take {s0 : Option Addr} {R : Ending → World → Prop} {w : World} (h : V_space_Space_Take s0 R w) : Calls P F.«space_Space_Take» ⟨[.pointer s0]⟩ w R :=
  calls_of_vc tabOk bdOk mixed (fn := Tryz.f116) (c := bodyOf Tryz.f116) (pl := plan_space_Space_Take) Tryz.func116 (by kernel_rfl) (Nat.le_of_ble_eq_true (by kernel_rfl)) (by kernel_rfl)
    (Eq.mp (show V_space_Space_Take s0 R w = vcFun P Tb Bd plan_space_Space_Take (raw Tryz.f116.ntmps) Tryz.f116.results.toList (bodyOf Tryz.f116) [.pointer s0] R w by kernel_rfl) h)

def V_dedup_Table_Add (t0 : Option Addr) (data1 : ByteArray) (block2 : Int) (R : Ending → World → Prop) (w : World) : Prop :=
 Calls P F.«dedup_Table_is» ⟨[.pointer t0]⟩ w fun e11 w11 => ∃ b11 : Bool, e11 = .returned (.bool b11) ∧
 bcase (!b11) (
  R (.returned (.tuple ⟨[.int .u32 0, .int .i64 1]⟩)) w11)
 (Calls P F.«dedup_Table_may» ⟨[.pointer t0, .string data1]⟩ w11 fun e15 w15 => ∃ n15 : Int, e15 = .returned (.int .i64 n15) ∧
  bcase (n15 != 0) (
   R (.returned (.tuple ⟨[.int .u32 0, .int .i64 n15]⟩)) w15)
  (ptrW t0 fun a22 =>
   ∃ n24 : Int, w15.cell? (a22.add 2) = some (.int .u32 n24) ∧
   bcase (n24 == 4294967295) (
    R (.returned (.tuple ⟨[.int .u32 0, .int .i64 12]⟩)) w15)
   (ptrW t0 fun a27 =>
    ∃ n29 : Int, w15.cell? (a27.add 2) = some (.int .u32 n29) ∧
    Calls P F.«dedup_Table_put» ⟨[.pointer t0, .int .u32 n29, .agg ⟨[.string data1, .int .i64 block2, .int .i64 1]⟩]⟩ w15 fun e35 w35 => e35 = .returned (.tuple ⟨[]⟩) ∧
    R (.returned (.tuple ⟨[.int .u32 n29, .int .i64 0]⟩)) w35)))
def plan_dedup_Table_Add : Plan := { loops := fun i => match i with | _ => ([], []), cuts := fun i => match i with | _ => none, head := fun i => match i with | _ => none, rng := fun i => match i with | _ => [] }
theorem ok_dedup_Table_Add {t0 : Option Addr} {data1 : ByteArray} {block2 : Int} {R : Ending → World → Prop} {w : World} (h : V_dedup_Table_Add t0 data1 block2 R w) : Calls P F.«dedup_Table_Add» ⟨[.pointer t0, .string data1, .int .i64 block2]⟩ w R :=
  calls_of_vc tabOk bdOk mixed (fn := Tryz.f117) (c := bodyOf Tryz.f117) (pl := plan_dedup_Table_Add) Tryz.func117 (by kernel_rfl) (Nat.le_of_ble_eq_true (by kernel_rfl)) (by kernel_rfl)
    (Eq.mp (show V_dedup_Table_Add t0 data1 block2 R w = vcFun P Tb Bd plan_dedup_Table_Add (raw Tryz.f117.ntmps) Tryz.f117.results.toList (bodyOf Tryz.f117) [.pointer t0, .string data1, .int .i64 block2] R w by kernel_rfl) h)

def V_line_Line_holds (l0 : Option Addr) (R : Ending → World → Prop) (w : World) : Prop :=
 Calls P F.«line_Line_is» ⟨[.pointer l0]⟩ w fun e5 w5 => ∃ b5 : Bool, e5 = .returned (.bool b5) ∧
 bcase (!b5) (
  R (.returned (.int .i64 1)) w5)
 (ptrW l0 fun a9 =>
  ∃ b11 : Bool, w5.cell? (a9.add 4) = some (.bool b11) ∧
  bcase b11 (
   R (.returned (.int .i64 8)) w5)
  (R (.returned (.int .i64 0)) w5))
def plan_line_Line_holds : Plan := { loops := fun i => match i with | _ => ([], []), cuts := fun i => match i with | _ => none, head := fun i => match i with | _ => none, rng := fun i => match i with | _ => [] }
theorem ok_line_Line_holds {l0 : Option Addr} {R : Ending → World → Prop} {w : World} (h : V_line_Line_holds l0 R w) : Calls P F.«line_Line_holds» ⟨[.pointer l0]⟩ w R :=
  calls_of_vc tabOk bdOk mixed (fn := Tryz.f118) (c := bodyOf Tryz.f118) (pl := plan_line_Line_holds) Tryz.func118 (by kernel_rfl) (Nat.le_of_ble_eq_true (by kernel_rfl)) (by kernel_rfl)
    (Eq.mp (show V_line_Line_holds l0 R w = vcFun P Tb Bd plan_line_Line_holds (raw Tryz.f118.ntmps) Tryz.f118.results.toList (bodyOf Tryz.f118) [.pointer l0] R w by kernel_rfl) h)

def V_line_Line_last (l0 : Option Addr) (R : Ending → World → Prop) (w : World) : Prop :=
 ptrW l0 fun a4 =>
 ∃ (a6 : Option Addr) (l6 c6 : Nat), w.cell? (a4.add 2) = some (.slice a6 l6 c6) ∧
 bcase (decide ((l6 : Int) > 0)) (
  ptrW l0 fun a11 =>
  ∃ (a13 : Option Addr) (l13 c13 : Nat), w.cell? (a11.add 2) = some (.slice a13 l13 c13) ∧
  (0 ≤ (0 : Int) ∧ (0 : Int) < (l13 : Int)) ∧
  ptrW a13 fun a14 =>
  ∃ n15 : Int, w.cell? (a14.add ((0 : Int).toNat * 1)) = some (.int .i64 n15) ∧
  (2 : Int) ≠ 0 ∧ R (.returned (.bool ((Int.tmod n15 2) != 0))) w)
 (R (.returned (.bool false)) w)
def plan_line_Line_last : Plan := { loops := fun i => match i with | _ => ([], []), cuts := fun i => match i with | _ => none, head := fun i => match i with | _ => none, rng := fun i => match i with | _ => [] }
theorem ok_line_Line_last {l0 : Option Addr} {R : Ending → World → Prop} {w : World} (h : V_line_Line_last l0 R w) : Calls P F.«line_Line_last» ⟨[.pointer l0]⟩ w R :=
  calls_of_vc tabOk bdOk mixed (fn := Tryz.f119) (c := bodyOf Tryz.f119) (pl := plan_line_Line_last) Tryz.func119 (by kernel_rfl) (Nat.le_of_ble_eq_true (by kernel_rfl)) (by kernel_rfl)
    (Eq.mp (show V_line_Line_last l0 R w = vcFun P Tb Bd plan_line_Line_last (raw Tryz.f119.ntmps) Tryz.f119.results.toList (bodyOf Tryz.f119) [.pointer l0] R w by kernel_rfl) h)

def V_line_Line_Blow (l0 : Option Addr) (R : Ending → World → Prop) (w : World) : Prop :=
 Calls P F.«line_Line_holds» ⟨[.pointer l0]⟩ w fun e3 w3 => ∃ n3 : Int, e3 = .returned (.int .i64 n3) ∧
 bcase (n3 == 0) (
  ptrW l0 fun a6 =>
  (∃ old, w3.cell? ((a6.add 4).add 0) = some old) ∧ w3.frozen? ((a6.add 4).add 0) = false ∧
  letW (w3.setCell ((a6.add 4).add 0) (.bool true)) fun u0 =>
  ∀ wd2, Drew u0 wd2 →
  ptrW l0 fun a9 =>
  ∃ p11 : Option Addr, wd2.cell? (a9.add 0) = some (.pointer p11) ∧
  ptrW l0 fun a13 =>
  ∃ (a15 : Option Addr) (l15 c15 : Nat), wd2.cell? (a13.add 2) = some (.slice a15 l15 c15) ∧
  Calls P F.«device_Device_Crash» ⟨[.pointer p11, .slice a15 l15 c15]⟩ wd2 fun e16 w16 => e16 = .returned (.tuple ⟨[]⟩) ∧
  R (.returned (.tuple ⟨[]⟩)) w16)
 (R (.returned (.tuple ⟨[]⟩)) w3)
def plan_line_Line_Blow : Plan := { loops := fun i => match i with | _ => ([], []), cuts := fun i => match i with | _ => none, head := fun i => match i with | _ => none, rng := fun i => match i with | _ => [], stg := fun i => match i with | 2 => some ((.q 0 (.q 1 (.q 2 (.q 3 (.q 4 (.q 5 (.q 6 (.q 7 (.w 8 [] .done))))))))), [0, 1, 3, 7, 0, 16, 48, 112, 255]) | _ => none }
theorem ok_line_Line_Blow {l0 : Option Addr} {R : Ending → World → Prop} {w : World} (h : V_line_Line_Blow l0 R w) : Calls P F.«line_Line_Blow» ⟨[.pointer l0]⟩ w R :=
  calls_of_vc tabOk bdOk mixed (fn := Tryz.f120) (c := bodyOf Tryz.f120) (pl := plan_line_Line_Blow) Tryz.func120 (by kernel_rfl) (Nat.le_of_ble_eq_true (by kernel_rfl)) (by kernel_rfl)
    (Eq.mp (show V_line_Line_Blow l0 R w = vcFun P Tb Bd plan_line_Line_Blow (raw Tryz.f120.ntmps) Tryz.f120.results.toList (bodyOf Tryz.f120) [.pointer l0] R w by kernel_rfl) h)

def V_device_Device_at (d0 : Option Addr) (k1 : Int) (R : Ending → World → Prop) (w : World) : Prop :=
 ∃ J2 : Tup [(6, .bool)] → World → Prop, (bcase ((d0).isNone) (
   J2 (true, ()) w)
  (ptrW d0 fun a11 =>
   ∃ (a13 : Option Addr) (l13 c13 : Nat), w.cell? (a11.add 0) = some (.slice a13 l13 c13) ∧
   J2 (((l13 : Int) == 0), ()) w)) ∧
 ∀ (junk2 : St) (b6 : Bool) (wJ2 : World), J2 (b6, ()) wJ2 →
 bcase b6 (
  R (.returned (.tuple ⟨[.pointer none, .int .i64 1]⟩)) wJ2)
 (bcase (decide (k1 < 0)) (
   R (.returned (.tuple ⟨[.pointer none, .int .i64 2]⟩)) wJ2)
  (ptrW d0 fun a23 =>
   ∃ (a25 : Option Addr) (l25 c25 : Nat), wJ2.cell? (a23.add 0) = some (.slice a25 l25 c25) ∧
   bcase (decide (k1 ≥ (l25 : Int))) (
    R (.returned (.tuple ⟨[.pointer none, .int .i64 2]⟩)) wJ2)
   (ptrW d0 fun a30 =>
    ∃ (a32 : Option Addr) (l32 c32 : Nat), wJ2.cell? (a30.add 0) = some (.slice a32 l32 c32) ∧
    (0 ≤ k1 ∧ k1 < (l32 : Int)) ∧
    ptrW a32 fun a34 =>
    R (.returned (.tuple ⟨[.pointer (some (a34.add (k1.toNat * 129))), .int .i64 0]⟩)) wJ2)))
def plan_device_Device_at : Plan := { loops := fun i => match i with | _ => ([], []), cuts := fun i => match i with | 2 => some ([(6, .bool)], [6, 7, 8, 9, 10, 11, 12, 13, 14, 15, 16]) | _ => none, head := fun i => match i with | _ => none, rng := fun i => match i with | _ => [] }
theorem ok_device_Device_at {d0 : Option Addr} {k1 : Int} {R : Ending → World → Prop} {w : World} (h : V_device_Device_at d0 k1 R w) : Calls P F.«device_Device_at» ⟨[.pointer d0, .int .i64 k1]⟩ w R :=
  calls_of_vc tabOk bdOk mixed (fn := Tryz.f121) (c := bodyOf Tryz.f121) (pl := plan_device_Device_at) Tryz.func121 (by kernel_rfl) (Nat.le_of_ble_eq_true (by kernel_rfl)) (by kernel_rfl)
    (Eq.mp (show V_device_Device_at d0 k1 R w = vcFun P Tb Bd plan_device_Device_at (raw Tryz.f121.ntmps) Tryz.f121.results.toList (bodyOf Tryz.f121) [.pointer d0, .int .i64 k1] R w by kernel_rfl) h)

def V_revertref11_Device_place (d0 : Option Addr) (atx1 : Int) (R : Ending → World → Prop) (w : World) : Prop :=
 ∃ J4 : Tup [(6, (.int .i64))] → World → Prop, (∃ (I2 : Tup [(6, (.int .i64))] → World → Prop) (μ2 : Tup [(6, (.int .i64))] → World → Nat), I2 (0, ()) w ∧
  ∀ (junk2 : St) (n6 : Int) (wL2 : World), I2 (n6, ()) wL2 →
  ptrW d0 fun a9 =>
  ∃ (a11 : Option Addr) (l11 c11 : Nat), wL2.cell? (a9.add 1) = some (.slice a11 l11 c11) ∧
  bcase (decide (n6 < (l11 : Int))) (
   ptrW d0 fun a16 =>
   ∃ (a18 : Option Addr) (l18 c18 : Nat), wL2.cell? (a16.add 1) = some (.slice a18 l18 c18) ∧
   (0 ≤ n6 ∧ n6 < (l18 : Int)) ∧
   ptrW a18 fun a20 =>
   ∃ n22 : Int, wL2.cell? ((a20.add (n6.toNat * 2)).add 0) = some (.int .i64 n22) ∧
   bcase (decide (n22 < atx1)) (
    I2 ((IntKind.wrap .i64 (n6 + 1)), ()) wL2 ∧ μ2 ((IntKind.wrap .i64 (n6 + 1)), ()) wL2 < μ2 (n6, ()) wL2)
   (J4 (n6, ()) wL2))
  (J4 (n6, ()) wL2)) ∧
 ∀ (junk4 : St) (n6_1 : Int) (wJ4 : World), J4 (n6_1, ()) wJ4 →
 ptrW d0 fun a31 =>
 ∃ (a33 : Option Addr) (l33 c33 : Nat), wJ4.cell? (a31.add 1) = some (.slice a33 l33 c33) ∧
 bcase (decide (n6_1 < (l33 : Int))) (
  ptrW d0 fun a38 =>
  ∃ (a40 : Option Addr) (l40 c40 : Nat), wJ4.cell? (a38.add 1) = some (.slice a40 l40 c40) ∧
  (0 ≤ n6_1 ∧ n6_1 < (l40 : Int)) ∧
  ptrW a40 fun a42 =>
  ∃ n44 : Int, wJ4.cell? ((a42.add (n6_1.toNat * 2)).add 0) = some (.int .i64 n44) ∧
  ∀ wd4, Drew wJ4 wd4 →
  R (.returned (.tuple ⟨[.int .i64 n6_1, .bool (n44 == atx1)]⟩)) wd4)
 (∀ wd4, Drew wJ4 wd4 →
  R (.returned (.tuple ⟨[.int .i64 n6_1, .bool false]⟩)) wd4)
def plan_revertref11_Device_place : Plan := { loops := fun i => match i with | 32 => ([(6, (.int .i64))], [6, 7, 8, 9, 10, 11, 12, 13, 14, 15, 16, 17, 18, 19, 20, 21, 22, 23, 24, 25, 26, 27]) | _ => ([], []), cuts := fun i => match i with | 4 => some ([(6, (.int .i64))], [6, 7, 8, 9, 10, 11, 12, 13, 14, 15, 16, 17, 18, 19, 20, 21, 22, 23, 24, 25, 26, 27]) | _ => none, head := fun i => match i with | 4 => some ([], [0, 1, 2, 3, 4, 5, 6, 7, 8, 9, 10, 11, 12, 13, 14, 15, 16, 17, 18, 19, 20, 21], []) | _ => none, rng := fun i => match i with | _ => [] }
theorem ok_revertref11_Device_place {d0 : Option Addr} {atx1 : Int} {R : Ending → World → Prop} {w : World} (h : V_revertref11_Device_place d0 atx1 R w) : Calls P F.«revertref11_Device_place» ⟨[.pointer d0, .int .i64 atx1]⟩ w R :=
  calls_of_vc tabOk bdOk mixed (fn := Tryz.f122) (c := bodyOf Tryz.f122) (pl := plan_revertref11_Device_place) Tryz.func122 (by kernel_rfl) (Nat.le_of_ble_eq_true (by kernel_rfl)) (by kernel_rfl)
    (Eq.mp (show V_revertref11_Device_place d0 atx1 R w = vcFun P Tb Bd plan_revertref11_Device_place (raw Tryz.f122.ntmps) Tryz.f122.results.toList (bodyOf Tryz.f122) [.pointer d0, .int .i64 atx1] R w by kernel_rfl) h)

def V_line_Line_Read (l0 : Option Addr) (atx1 : Int) (R : Ending → World → Prop) (w : World) : Prop :=
 Calls P F.«line_Line_holds» ⟨[.pointer l0]⟩ w fun e8 w8 => ∃ n8 : Int, e8 = .returned (.int .i64 n8) ∧
 bcase (n8 != 0) (
  R (.returned (.tuple ⟨[.string (bs []), .int .i64 n8]⟩)) w8)
 (ptrW l0 fun a13 =>
  ∃ p15 : Option Addr, w8.cell? (a13.add 0) = some (.pointer p15) ∧
  Calls P F.«device_Device_Read» ⟨[.pointer p15, .int .i64 atx1]⟩ w8 fun e17 w17 => ∃ s17_a : ByteArray, ∃ n17_b : Int, e17 = .returned (.tuple ⟨[.string s17_a, .int .i64 n17_b]⟩) ∧
  R (.returned (.tuple ⟨[.string s17_a, .int .i64 n17_b]⟩)) w17)
def plan_line_Line_Read : Plan := { loops := fun i => match i with | _ => ([], []), cuts := fun i => match i with | _ => none, head := fun i => match i with | _ => none, rng := fun i => match i with | _ => [] }
theorem ok_line_Line_Read {l0 : Option Addr} {atx1 : Int} {R : Ending → World → Prop} {w : World} (h : V_line_Line_Read l0 atx1 R w) : Calls P F.«line_Line_Read» ⟨[.pointer l0, .int .i64 atx1]⟩ w R :=
  calls_of_vc tabOk bdOk mixed (fn := Tryz.f124) (c := bodyOf Tryz.f124) (pl := plan_line_Line_Read) Tryz.func124 (by kernel_rfl) (Nat.le_of_ble_eq_true (by kernel_rfl)) (by kernel_rfl)
    (Eq.mp (show V_line_Line_Read l0 atx1 R w = vcFun P Tb Bd plan_line_Line_Read (raw Tryz.f124.ntmps) Tryz.f124.results.toList (bodyOf Tryz.f124) [.pointer l0, .int .i64 atx1] R w by kernel_rfl) h)

def V_dedup_Table_Load (t0 : Option Addr) (id1 : Int) (data2 : ByteArray) (block3 : Int) (refs4 : Int) (R : Ending → World → Prop) (w : World) : Prop :=
 Calls P F.«dedup_Table_is» ⟨[.pointer t0]⟩ w fun e15 w15 => ∃ b15 : Bool, e15 = .returned (.bool b15) ∧
 bcase (!b15) (
  R (.returned (.int .i64 1)) w15)
 (bcase (id1 == 0) (
   R (.returned (.int .i64 2)) w15)
  (bcase (id1 == 4294967295) (
    R (.returned (.int .i64 2)) w15)
   (Calls P F.«dedup_Table_may» ⟨[.pointer t0, .string data2]⟩ w15 fun e25 w25 => ∃ n25 : Int, e25 = .returned (.int .i64 n25) ∧
    ptrW t0 fun a28 =>
    ∃ m30 : Option Nat, w25.cell? (a28.add 0) = some (.map m30) ∧
    ∃ es32 : List MapEntry, mapAt w25 m30 es32 ∧ keysLike (.int .u32 id1) es32 ∧
    ∃ s32_0 : ByteArray, ∃ n32_1 : Int, ∃ n32_2 : Int, ∃ ok32 : Bool, mfind (.int .u32 id1) es32 = (if ok32 then some (.agg ⟨[.string s32_0, .int .i64 n32_1, .int .i64 n32_2]⟩) else none) ∧ (ok32 = false → (.agg ⟨[.string s32_0, .int .i64 n32_1, .int .i64 n32_2]⟩ : Value) = .agg ⟨[.string (bs []), .int .i64 0, .int .i64 0]⟩) ∧
    letW (w25.alloc (.cells ⟨[(.string (bs [])), (.int .i64 0), (.int .i64 0)]⟩ T.«dedup_chunk»)) fun u0 =>
    (∃ old, u0.cell? ((⟨w25.heap.size, 0, none⟩ : Addr).add 0) = some old) ∧ u0.frozen? ((⟨w25.heap.size, 0, none⟩ : Addr).add 0) = false ∧
    letW (u0.setCell ((⟨w25.heap.size, 0, none⟩ : Addr).add 0) (.string s32_0)) fun u0_1 =>
    (∃ old, u0_1.cell? ((⟨w25.heap.size, 0, none⟩ : Addr).add 1) = some old) ∧ u0_1.frozen? ((⟨w25.heap.size, 0, none⟩ : Addr).add 1) = false ∧
    letW (u0_1.setCell ((⟨w25.heap.size, 0, none⟩ : Addr).add 1) (.int .i64 n32_1)) fun u0_2 =>
    (∃ old, u0_2.cell? ((⟨w25.heap.size, 0, none⟩ : Addr).add 2) = some old) ∧ u0_2.frozen? ((⟨w25.heap.size, 0, none⟩ : Addr).add 2) = false ∧
    letW (u0_2.setCell ((⟨w25.heap.size, 0, none⟩ : Addr).add 2) (.int .i64 n32_2)) fun u0_3 =>
    ∃ J8 : Tup [(35, .bool)] → World → Prop, (bcase (n25 == 4) (
      J8 (true, ()) u0_3)
     (bcase (decide (refs4 < 1)) (
       J8 (true, ()) u0_3)
      (J8 ((decide (refs4 > 65535)), ()) u0_3))) ∧
    ∀ (junk8 : St) (b35 : Bool) (wJ8 : World), J8 (b35, ()) wJ8 →
    bcase b35 (
     R (.returned (.int .i64 4)) wJ8)
    (bcase (n25 != 0) (
      R (.returned (.int .i64 6)) wJ8)
     (bcase ok32 (
       R (.returned (.int .i64 6)) wJ8)
      (Calls P F.«dedup_Table_put» ⟨[.pointer t0, .int .u32 id1, .agg ⟨[.string data2, .int .i64 block3, .int .i64 refs4]⟩]⟩ wJ8 fun e58 w58 => e58 = .returned (.tuple ⟨[]⟩) ∧
       R (.returned (.int .i64 0)) w58))))))
def plan_dedup_Table_Load : Plan := { loops := fun i => match i with | _ => ([], []), cuts := fun i => match i with | 8 => some ([(35, .bool)], [35, 36, 37, 38, 39, 40, 41, 42, 43, 44, 45]) | _ => none, head := fun i => match i with | _ => none, rng := fun i => match i with | _ => [] }
theorem ok_dedup_Table_Load {t0 : Option Addr} {id1 : Int} {data2 : ByteArray} {block3 : Int} {refs4 : Int} {R : Ending → World → Prop} {w : World} (h : V_dedup_Table_Load t0 id1 data2 block3 refs4 R w) : Calls P F.«dedup_Table_Load» ⟨[.pointer t0, .int .u32 id1, .string data2, .int .i64 block3, .int .i64 refs4]⟩ w R :=
  calls_of_vc tabOk bdOk mixed (fn := Tryz.f125) (c := bodyOf Tryz.f125) (pl := plan_dedup_Table_Load) Tryz.func125 (by kernel_rfl) (Nat.le_of_ble_eq_true (by kernel_rfl)) (by kernel_rfl)
    (Eq.mp (show V_dedup_Table_Load t0 id1 data2 block3 refs4 R w = vcFun P Tb Bd plan_dedup_Table_Load (raw Tryz.f125.ntmps) Tryz.f125.results.toList (bodyOf Tryz.f125) [.pointer t0, .int .u32 id1, .string data2, .int .i64 block3, .int .i64 refs4] R w by kernel_rfl) h)

def V_revertref11_Device_Read (d0 : Option Addr) (atx1 : Int) (R : Ending → World → Prop) (w : World) : Prop :=
 bcase (decide (atx1 < 0)) (
  R (.returned (.tuple ⟨[.string (bs []), .int .i64 2]⟩)) w)
 (ptrW d0 fun a13 =>
  ∃ (a15 : Option Addr) (l15 c15 : Nat), w.cell? (a13.add 0) = some (.slice a15 l15 c15) ∧
  bcase (decide (atx1 ≥ (l15 : Int))) (
   R (.returned (.tuple ⟨[.string (bs []), .int .i64 2]⟩)) w)
  (Calls P F.«revertref11_Device_place» ⟨[.pointer d0, .int .i64 atx1]⟩ w fun e22 w22 => ∃ n22_a : Int, ∃ b22_b : Bool, e22 = .returned (.tuple ⟨[.int .i64 n22_a, .bool b22_b]⟩) ∧
   bcase b22_b (
    ptrW d0 fun a27 =>
    ∃ (a29 : Option Addr) (l29 c29 : Nat), w22.cell? (a27.add 1) = some (.slice a29 l29 c29) ∧
    (0 ≤ n22_a ∧ n22_a < (l29 : Int)) ∧
    ptrW a29 fun a31 =>
    ∃ s33 : ByteArray, w22.cell? ((a31.add (n22_a.toNat * 2)).add 1) = some (.string s33) ∧
    R (.returned (.tuple ⟨[.string s33, .int .i64 0]⟩)) w22)
   (ptrW d0 fun a35 =>
    ∃ (a37 : Option Addr) (l37 c37 : Nat), w22.cell? (a35.add 0) = some (.slice a37 l37 c37) ∧
    (0 ≤ atx1 ∧ atx1 < (l37 : Int)) ∧
    ptrW a37 fun a39 =>
    ∃ s40 : ByteArray, w22.cell? (a39.add (atx1.toNat * 1)) = some (.string s40) ∧
    R (.returned (.tuple ⟨[.string s40, .int .i64 0]⟩)) w22)))
def plan_revertref11_Device_Read : Plan := { loops := fun i => match i with | _ => ([], []), cuts := fun i => match i with | _ => none, head := fun i => match i with | _ => none, rng := fun i => match i with | _ => [] }
theorem ok_revertref11_Device_Read {d0 : Option Addr} {atx1 : Int} {R : Ending → World → Prop} {w : World} (h : V_revertref11_Device_Read d0 atx1 R w) : Calls P F.«revertref11_Device_Read» ⟨[.pointer d0, .int .i64 atx1]⟩ w R :=
  calls_of_vc tabOk bdOk mixed (fn := Tryz.f126) (c := bodyOf Tryz.f126) (pl := plan_revertref11_Device_Read) Tryz.func126 (by kernel_rfl) (Nat.le_of_ble_eq_true (by kernel_rfl)) (by kernel_rfl)
    (Eq.mp (show V_revertref11_Device_Read d0 atx1 R w = vcFun P Tb Bd plan_revertref11_Device_Read (raw Tryz.f126.ntmps) Tryz.f126.results.toList (bodyOf Tryz.f126) [.pointer d0, .int .i64 atx1] R w by kernel_rfl) h)

def V_revertref16_Table_Find (t0 : Option Addr) (data1 : ByteArray) (R : Ending → World → Prop) (w : World) : Prop :=
 ∃ (I2 : Tup [(5, (.int .i64))] → World → Prop) (μ2 : Tup [(5, (.int .i64))] → World → Nat), I2 (0, ()) w ∧
 ∀ (junk2 : St) (n5 : Int) (wL2 : World), I2 (n5, ()) wL2 →
 ptrW t0 fun a8 =>
 ∃ (a10 : Option Addr) (l10 c10 : Nat), wL2.cell? (a8.add 0) = some (.slice a10 l10 c10) ∧
 bcase (decide (n5 < (l10 : Int))) (
  ptrW t0 fun a16 =>
  ∃ (a18 : Option Addr) (l18 c18 : Nat), wL2.cell? (a16.add 0) = some (.slice a18 l18 c18) ∧
  (0 ≤ n5 ∧ n5 < (l18 : Int)) ∧
  ptrW a18 fun a20 =>
  ∃ s22 : ByteArray, wL2.cell? ((a20.add (n5.toNat * 4)).add 1) = some (.string s22) ∧
  bcase (s22.toList == data1.toList) (
   R (.returned (.int .i64 n5)) wL2)
  (I2 ((IntKind.wrap .i64 (n5 + 1)), ()) wL2 ∧ μ2 ((IntKind.wrap .i64 (n5 + 1)), ()) wL2 < μ2 (n5, ()) wL2))
 (R (.returned (.int .i64 (-1))) wL2)
def plan_revertref16_Table_Find : Plan := { loops := fun i => match i with | 32 => ([(5, (.int .i64))], [4, 5, 6, 7, 8, 9, 10, 11, 12, 13, 14, 15, 16, 17, 18, 19, 20, 21, 22, 23, 24, 25]) | _ => ([], []), cuts := fun i => match i with | _ => none, head := fun i => match i with | _ => none, rng := fun i => match i with | _ => [] }
theorem ok_revertref16_Table_Find {t0 : Option Addr} {data1 : ByteArray} {R : Ending → World → Prop} {w : World} (h : V_revertref16_Table_Find t0 data1 R w) : Calls P F.«revertref16_Table_Find» ⟨[.pointer t0, .string data1]⟩ w R :=
  calls_of_vc tabOk bdOk mixed (fn := Tryz.f127) (c := bodyOf Tryz.f127) (pl := plan_revertref16_Table_Find) Tryz.func127 (by kernel_rfl) (Nat.le_of_ble_eq_true (by kernel_rfl)) (by kernel_rfl)
    (Eq.mp (show V_revertref16_Table_Find t0 data1 R w = vcFun P Tb Bd plan_revertref16_Table_Find (raw Tryz.f127.ntmps) Tryz.f127.results.toList (bodyOf Tryz.f127) [.pointer t0, .string data1] R w by kernel_rfl) h)

def V_revertref16_Table_put (t0 : Option Addr) (x1_0 : Int) (x1_1 : ByteArray) (x1_2 : Int) (x1_3 : Int) (R : Ending → World → Prop) (w : World) : Prop :=
 letW (w.alloc (.cells ⟨[.int .u32 x1_0, .string x1_1, .int .i64 x1_2, .int .i64 x1_3]⟩ T.«revertref16_Chunk»)) fun u0 =>
 ∃ J4 : Tup [(4, (.int .i64))] → World → Prop, (∃ (I2 : Tup [(4, (.int .i64))] → World → Prop) (μ2 : Tup [(4, (.int .i64))] → World → Nat), I2 (0, ()) u0 ∧
  ∀ (junk2 : St) (n4 : Int) (wL2 : World), I2 (n4, ()) wL2 →
  ptrW t0 fun a8 =>
  ∃ (a10 : Option Addr) (l10 c10 : Nat), wL2.cell? (a8.add 0) = some (.slice a10 l10 c10) ∧
  bcase (decide (n4 < (l10 : Int))) (
   ptrW t0 fun a15 =>
   ∃ (a17 : Option Addr) (l17 c17 : Nat), wL2.cell? (a15.add 0) = some (.slice a17 l17 c17) ∧
   (0 ≤ n4 ∧ n4 < (l17 : Int)) ∧
   ptrW a17 fun a19 =>
   ∃ n21 : Int, wL2.cell? ((a19.add (n4.toNat * 4)).add 0) = some (.int .u32 n21) ∧
   ∃ n23 : Int, wL2.cell? ((⟨w.heap.size, 0, none⟩ : Addr).add 0) = some (.int .u32 n23) ∧
   ∀ wd2, Drew wL2 wd2 →
   bcase (decide (n21 < n23)) (
    I2 ((IntKind.wrap .i64 (n4 + 1)), ()) wd2 ∧ μ2 ((IntKind.wrap .i64 (n4 + 1)), ()) wd2 < μ2 (n4, ()) wL2)
   (J4 (n4, ()) wd2))
  (∀ wd2, Drew wL2 wd2 →
   J4 (n4, ()) wd2)) ∧
 ∀ (junk4 : St) (n4_1 : Int) (wJ4 : World), J4 (n4_1, ()) wJ4 →
 ptrW t0 fun a30 =>
 ∃ (a32 : Option Addr) (l32 c32 : Nat), wJ4.cell? (a30.add 0) = some (.slice a32 l32 c32) ∧
 (0 ≤ (0 : Int) ∧ (0 : Int) ≤ n4_1 ∧ n4_1 ≤ (c32 : Int) ∧ (c32 : Int) ≤ (c32 : Int)) ∧
 ∃ (a35 : Option Addr) (l35 c35 : Nat), ∃ w35, (Builtin.append_ ⟨[T.«l_revertref16_Chunk», T.«l_revertref16_Chunk»]⟩ T.«l_revertref16_Chunk» ⟨[.slice none 0 0, .slice (if (c32 : Int).toNat = (0 : Int).toNat then a32 else a32.map (·.add ((0 : Int).toNat * 4))) (n4_1.toNat - (0 : Int).toNat) ((c32 : Int).toNat - (0 : Int).toNat)]⟩).run P wJ4 = .ok (.slice a35 l35 c35) w35 ∧
 ∃ n37_0 : Int, ∃ s37_1 : ByteArray, ∃ n37_2 : Int, ∃ n37_3 : Int, (w35.cell? ((⟨w.heap.size, 0, none⟩ : Addr).add 0) = some (.int .u32 n37_0) ∧ w35.cell? ((⟨w.heap.size, 0, none⟩ : Addr).add 1) = some (.string s37_1) ∧ w35.cell? ((⟨w.heap.size, 0, none⟩ : Addr).add 2) = some (.int .i64 n37_2) ∧ w35.cell? ((⟨w.heap.size, 0, none⟩ : Addr).add 3) = some (.int .i64 n37_3) ∧ True) ∧
 ∃ (a38 : Option Addr) (l38 c38 : Nat), ∃ w38, (Instr.buildSlice T.«l_revertref16_Chunk» 1 ⟨[(0, .agg ⟨[.int .u32 n37_0, .string s37_1, .int .i64 n37_2, .int .i64 n37_3]⟩)]⟩).run P w35 = .ok (.slice a38 l38 c38) w38 ∧
 ∃ (a39 : Option Addr) (l39 c39 : Nat), ∃ w39, (Builtin.append_ ⟨[T.«l_revertref16_Chunk», T.«l_revertref16_Chunk»]⟩ T.«l_revertref16_Chunk» ⟨[.slice a35 l35 c35, .slice a38 l38 c38]⟩).run P w38 = .ok (.slice a39 l39 c39) w39 ∧
 ptrW t0 fun a43 =>
 ∃ (a45 : Option Addr) (l45 c45 : Nat), w39.cell? (a43.add 0) = some (.slice a45 l45 c45) ∧
 (0 ≤ n4_1 ∧ n4_1 ≤ (l45 : Int) ∧ (l45 : Int) ≤ (c45 : Int) ∧ (c45 : Int) ≤ (c45 : Int)) ∧
 ∃ (a48 : Option Addr) (l48 c48 : Nat), ∃ w48, (Builtin.append_ ⟨[T.«l_revertref16_Chunk», T.«l_revertref16_Chunk»]⟩ T.«l_revertref16_Chunk» ⟨[.slice a39 l39 c39, .slice (if (c45 : Int).toNat = n4_1.toNat then a45 else a45.map (·.add (n4_1.toNat * 4))) ((l45 : Int).toNat - n4_1.toNat) ((c45 : Int).toNat - n4_1.toNat)]⟩).run P w39 = .ok (.slice a48 l48 c48) w48 ∧
 ptrW t0 fun a49 =>
 (∃ old, w48.cell? ((a49.add 0).add 0) = some old) ∧ w48.frozen? ((a49.add 0).add 0) = false ∧
 letW (w48.setCell ((a49.add 0).add 0) (.slice a48 l48 c48)) fun u0_1 =>
 ∃ n52 : Int, u0_1.cell? ((⟨w.heap.size, 0, none⟩ : Addr).add 0) = some (.int .u32 n52) ∧
 ptrW t0 fun a54 =>
 ∃ n56 : Int, u0_1.cell? (a54.add 1) = some (.int .u32 n56) ∧
 ∀ wd8, Drew u0_1 wd8 →
 bcase (decide (n52 ≥ n56)) (
  ∃ n60 : Int, wd8.cell? ((⟨w.heap.size, 0, none⟩ : Addr).add 0) = some (.int .u32 n60) ∧
  ptrW t0 fun a62 =>
  (∃ old, wd8.cell? ((a62.add 1).add 0) = some old) ∧ wd8.frozen? ((a62.add 1).add 0) = false ∧
  letW (wd8.setCell ((a62.add 1).add 0) (.int .u32 (IntKind.wrap .u32 (n60 + 1)))) fun u0_2 =>
  R (.returned (.tuple ⟨[]⟩)) u0_2)
 (R (.returned (.tuple ⟨[]⟩)) wd8)
def plan_revertref16_Table_put : Plan := { loops := fun i => match i with | 32 => ([(4, (.int .i64))], [4, 6, 7, 8, 9, 10, 11, 12, 13, 14, 15, 16, 17, 18, 19, 20, 21, 22, 23, 24, 25, 26, 27]) | _ => ([], []), cuts := fun i => match i with | 4 => some ([(4, (.int .i64))], [4, 6, 7, 8, 9, 10, 11, 12, 13, 14, 15, 16, 17, 18, 19, 20, 21, 22, 23, 24, 25, 26, 27]) | _ => none, head := fun i => match i with | 2 => some ([], [0, 1, 2, 3, 4, 5, 6, 7, 8, 9, 10, 11, 12, 13, 14, 15, 16, 17, 18, 19], []) | 8 => some ([], [0, 1, 2, 3, 4, 5, 6], []) | _ => none, rng := fun i => match i with | _ => [] }
theorem ok_revertref16_Table_put {t0 : Option Addr} {x1_0 : Int} {x1_1 : ByteArray} {x1_2 : Int} {x1_3 : Int} {R : Ending → World → Prop} {w : World} (h : V_revertref16_Table_put t0 x1_0 x1_1 x1_2 x1_3 R w) : Calls P F.«revertref16_Table_put» ⟨[.pointer t0, .agg ⟨[.int .u32 x1_0, .string x1_1, .int .i64 x1_2, .int .i64 x1_3]⟩]⟩ w R :=
  calls_of_vc tabOk bdOk mixed (fn := Tryz.f128) (c := bodyOf Tryz.f128) (pl := plan_revertref16_Table_put) Tryz.func128 (by kernel_rfl) (Nat.le_of_ble_eq_true (by kernel_rfl)) (by kernel_rfl)
    (Eq.mp (show V_revertref16_Table_put t0 x1_0 x1_1 x1_2 x1_3 R w = vcFun P Tb Bd plan_revertref16_Table_put (raw Tryz.f128.ntmps) Tryz.f128.results.toList (bodyOf Tryz.f128) [.pointer t0, .agg ⟨[.int .u32 x1_0, .string x1_1, .int .i64 x1_2, .int .i64 x1_3]⟩] R w by kernel_rfl) h)

def V_pool_Plan_Hold_1 (id0 : Int) (c1 : Option Addr) (R : Ending → World → Prop) (w : World) : Prop :=
 ptrW c1 fun a4 =>
 ∃ p4 : Option Addr, w.cell? a4 = some (.pointer p4) ∧
 ptrW p4 fun a5 =>
 ∃ p7 : Option Addr, w.cell? (a5.add 1) = some (.pointer p7) ∧
 Calls P F.«dedup_Table_Hold» ⟨[.pointer p7, .int .u32 id0]⟩ w fun e9 w9 => ∃ n9 : Int, e9 = .returned (.int .i64 n9) ∧
 R (.returned (.int .i64 n9)) w9
def plan_pool_Plan_Hold_1 : Plan := { loops := fun i => match i with | _ => ([], []), cuts := fun i => match i with | _ => none, head := fun i => match i with | _ => none, rng := fun i => match i with | _ => [] }
theorem ok_pool_Plan_Hold_1 {id0 : Int} {c1 : Option Addr} {R : Ending → World → Prop} {w : World} (h : V_pool_Plan_Hold_1 id0 c1 R w) : Calls P F.«pool_Plan_Hold_1» ⟨[.int .u32 id0, .pointer c1]⟩ w R :=
  calls_of_vc tabOk bdOk mixed (fn := Tryz.f130) (c := bodyOf Tryz.f130) (pl := plan_pool_Plan_Hold_1) Tryz.func130 (by kernel_rfl) (Nat.le_of_ble_eq_true (by kernel_rfl)) (by kernel_rfl)
    (Eq.mp (show V_pool_Plan_Hold_1 id0 c1 R w = vcFun P Tb Bd plan_pool_Plan_Hold_1 (raw Tryz.f130.ntmps) Tryz.f130.results.toList (bodyOf Tryz.f130) [.int .u32 id0, .pointer c1] R w by kernel_rfl) h)

def V_revertref16_Table_Hold (t0 : Option Addr) (id1 : Int) (R : Ending → World → Prop) (w : World) : Prop :=
 Calls P F.«revertref16_Table_At» ⟨[.pointer t0, .int .u32 id1]⟩ w fun e8 w8 => ∃ n8 : Int, e8 = .returned (.int .i64 n8) ∧
 bcase (decide (n8 < 0)) (
  R (.returned (.int .i64 5)) w8)
 (ptrW t0 fun a12 =>
  ∃ (a14 : Option Addr) (l14 c14 : Nat), w8.cell? (a12.add 0) = some (.slice a14 l14 c14) ∧
  (0 ≤ n8 ∧ n8 < (l14 : Int)) ∧
  ptrW a14 fun a16 =>
  ∃ n18 : Int, w8.cell? ((a16.add (n8.toNat * 4)).add 3) = some (.int .i64 n18) ∧
  bcase (decide (n18 ≥ 65535)) (
   R (.returned (.int .i64 12)) w8)
  (ptrW t0 fun a21 =>
   ∃ (a23 : Option Addr) (l23 c23 : Nat), w8.cell? (a21.add 0) = some (.slice a23 l23 c23) ∧
   (0 ≤ n8 ∧ n8 < (l23 : Int)) ∧
   ptrW a23 fun a25 =>
   ∃ n27 : Int, w8.cell? ((a25.add (n8.toNat * 4)).add 3) = some (.int .i64 n27) ∧
   (0 ≤ n8 ∧ n8 < (l23 : Int)) ∧
   ptrW a23 fun a29 =>
   (∃ old, w8.cell? (((a29.add (n8.toNat * 4)).add 3).add 0) = some old) ∧ w8.frozen? (((a29.add (n8.toNat * 4)).add 3).add 0) = false ∧
   letW (w8.setCell (((a29.add (n8.toNat * 4)).add 3).add 0) (.int .i64 (IntKind.wrap .i64 (n27 + 1)))) fun u0 =>
   R (.returned (.int .i64 0)) u0))
def plan_revertref16_Table_Hold : Plan := { loops := fun i => match i with | _ => ([], []), cuts := fun i => match i with | _ => none, head := fun i => match i with | _ => none, rng := fun i => match i with | _ => [] }
theorem ok_revertref16_Table_Hold {t0 : Option Addr} {id1 : Int} {R : Ending → World → Prop} {w : World} (h : V_revertref16_Table_Hold t0 id1 R w) : Calls P F.«revertref16_Table_Hold» ⟨[.pointer t0, .int .u32 id1]⟩ w R :=
  calls_of_vc tabOk bdOk mixed (fn := Tryz.f132) (c := bodyOf Tryz.f132) (pl := plan_revertref16_Table_Hold) Tryz.func132 (by kernel_rfl) (Nat.le_of_ble_eq_true (by kernel_rfl)) (by kernel_rfl)
    (Eq.mp (show V_revertref16_Table_Hold t0 id1 R w = vcFun P Tb Bd plan_revertref16_Table_Hold (raw Tryz.f132.ntmps) Tryz.f132.results.toList (bodyOf Tryz.f132) [.pointer t0, .int .u32 id1] R w by kernel_rfl) h)

def V_revertref16_Table_Release (t0 : Option Addr) (id1 : Int) (R : Ending → World → Prop) (w : World) : Prop :=
 Calls P F.«revertref16_Table_At» ⟨[.pointer t0, .int .u32 id1]⟩ w fun e10 w10 => ∃ n10 : Int, e10 = .returned (.int .i64 n10) ∧
 bcase (decide (n10 < 0)) (
  R (.returned (.tuple ⟨[.bool false, .int .i64 5]⟩)) w10)
 (ptrW t0 fun a14 =>
  ∃ (a16 : Option Addr) (l16 c16 : Nat), w10.cell? (a14.add 0) = some (.slice a16 l16 c16) ∧
  (0 ≤ n10 ∧ n10 < (l16 : Int)) ∧
  ptrW a16 fun a18 =>
  ∃ n20 : Int, w10.cell? ((a18.add (n10.toNat * 4)).add 3) = some (.int .i64 n20) ∧
  (0 ≤ n10 ∧ n10 < (l16 : Int)) ∧
  ptrW a16 fun a22 =>
  (∃ old, w10.cell? (((a22.add (n10.toNat * 4)).add 3).add 0) = some old) ∧ w10.frozen? (((a22.add (n10.toNat * 4)).add 3).add 0) = false ∧
  letW (w10.setCell (((a22.add (n10.toNat * 4)).add 3).add 0) (.int .i64 (IntKind.wrap .i64 (n20 - 1)))) fun u0 =>
  ptrW t0 fun a25 =>
  ∃ (a27 : Option Addr) (l27 c27 : Nat), u0.cell? (a25.add 0) = some (.slice a27 l27 c27) ∧
  (0 ≤ n10 ∧ n10 < (l27 : Int)) ∧
  ptrW a27 fun a29 =>
  ∃ n31 : Int, u0.cell? ((a29.add (n10.toNat * 4)).add 3) = some (.int .i64 n31) ∧
  bcase (decide (n31 > 0)) (
   R (.returned (.tuple ⟨[.bool false, .int .i64 0]⟩)) u0)
  (ptrW t0 fun a35 =>
   ∃ (a37 : Option Addr) (l37 c37 : Nat), u0.cell? (a35.add 0) = some (.slice a37 l37 c37) ∧
   (0 ≤ (0 : Int) ∧ (0 : Int) ≤ n10 ∧ n10 ≤ (c37 : Int) ∧ (c37 : Int) ≤ (c37 : Int)) ∧
   ∃ (a40 : Option Addr) (l40 c40 : Nat), ∃ w40, (Builtin.append_ ⟨[T.«l_revertref16_Chunk», T.«l_revertref16_Chunk»]⟩ T.«l_revertref16_Chunk» ⟨[.slice none 0 0, .slice (if (c37 : Int).toNat = (0 : Int).toNat then a37 else a37.map (·.add ((0 : Int).toNat * 4))) (n10.toNat - (0 : Int).toNat) ((c37 : Int).toNat - (0 : Int).toNat)]⟩).run P u0 = .ok (.slice a40 l40 c40) w40 ∧
   ptrW t0 fun a44 =>
   ∃ (a46 : Option Addr) (l46 c46 : Nat), w40.cell? (a44.add 0) = some (.slice a46 l46 c46) ∧
   (0 ≤ (IntKind.wrap .i64 (n10 + 1)) ∧ (IntKind.wrap .i64 (n10 + 1)) ≤ (l46 : Int) ∧ (l46 : Int) ≤ (c46 : Int) ∧ (c46 : Int) ≤ (c46 : Int)) ∧
   ∃ (a50 : Option Addr) (l50 c50 : Nat), ∃ w50, (Builtin.append_ ⟨[T.«l_revertref16_Chunk», T.«l_revertref16_Chunk»]⟩ T.«l_revertref16_Chunk» ⟨[.slice a40 l40 c40, .slice (if (c46 : Int).toNat = (IntKind.wrap .i64 (n10 + 1)).toNat then a46 else a46.map (·.add ((IntKind.wrap .i64 (n10 + 1)).toNat * 4))) ((l46 : Int).toNat - (IntKind.wrap .i64 (n10 + 1)).toNat) ((c46 : Int).toNat - (IntKind.wrap .i64 (n10 + 1)).toNat)]⟩).run P w40 = .ok (.slice a50 l50 c50) w50 ∧
   ptrW t0 fun a51 =>
   (∃ old, w50.cell? ((a51.add 0).add 0) = some old) ∧ w50.frozen? ((a51.add 0).add 0) = false ∧
   letW (w50.setCell ((a51.add 0).add 0) (.slice a50 l50 c50)) fun u0_1 =>
   R (.returned (.tuple ⟨[.bool true, .int .i64 0]⟩)) u0_1))
def plan_revertref16_Table_Release : Plan := { loops := fun i => match i with | _ => ([], []), cuts := fun i => match i with | _ => none, head := fun i => match i with | _ => none, rng := fun i => match i with | _ => [] }
theorem ok_revertref16_Table_Release {t0 : Option Addr} {id1 : Int} {R : Ending → World → Prop} {w : World} (h : V_revertref16_Table_Release t0 id1 R w) : Calls P F.«revertref16_Table_Release» ⟨[.pointer t0, .int .u32 id1]⟩ w R :=
  calls_of_vc tabOk bdOk mixed (fn := Tryz.f133) (c := bodyOf Tryz.f133) (pl := plan_revertref16_Table_Release) Tryz.func133 (by kernel_rfl) (Nat.le_of_ble_eq_true (by kernel_rfl)) (by kernel_rfl)
    (Eq.mp (show V_revertref16_Table_Release t0 id1 R w = vcFun P Tb Bd plan_revertref16_Table_Release (raw Tryz.f133.ntmps) Tryz.f133.results.toList (bodyOf Tryz.f133) [.pointer t0, .int .u32 id1] R w by kernel_rfl) h)

def V_revertref16_Table_Add (t0 : Option Addr) (data1 : ByteArray) (block2 : Int) (R : Ending → World → Prop) (w : World) : Prop :=
 bcase (decide ((data1.size : Int) < 1)) (
  R (.returned (.tuple ⟨[.int .u32 0, .int .i64 4]⟩)) w)
 (bcase (decide ((data1.size : Int) > 64)) (
   R (.returned (.tuple ⟨[.int .u32 0, .int .i64 4]⟩)) w)
  (Calls P F.«revertref16_Table_Find» ⟨[.pointer t0, .string data1]⟩ w fun e19 w19 => ∃ n19 : Int, e19 = .returned (.int .i64 n19) ∧
   bcase (decide (n19 ≥ 0)) (
    R (.returned (.tuple ⟨[.int .u32 0, .int .i64 6]⟩)) w19)
   (ptrW t0 fun a22 =>
    ∃ n24 : Int, w19.cell? (a22.add 1) = some (.int .u32 n24) ∧
    bcase (n24 == 4294967295) (
     R (.returned (.tuple ⟨[.int .u32 0, .int .i64 12]⟩)) w19)
    (ptrW t0 fun a27 =>
     ∃ n29 : Int, w19.cell? (a27.add 1) = some (.int .u32 n29) ∧
     Calls P F.«revertref16_Table_put» ⟨[.pointer t0, .agg ⟨[.int .u32 n29, .string data1, .int .i64 block2, .int .i64 1]⟩]⟩ w19 fun e35 w35 => e35 = .returned (.tuple ⟨[]⟩) ∧
     R (.returned (.tuple ⟨[.int .u32 n29, .int .i64 0]⟩)) w35))))
def plan_revertref16_Table_Add : Plan := { loops := fun i => match i with | _ => ([], []), cuts := fun i => match i with | _ => none, head := fun i => match i with | _ => none, rng := fun i => match i with | _ => [] }
theorem ok_revertref16_Table_Add {t0 : Option Addr} {data1 : ByteArray} {block2 : Int} {R : Ending → World → Prop} {w : World} (h : V_revertref16_Table_Add t0 data1 block2 R w) : Calls P F.«revertref16_Table_Add» ⟨[.pointer t0, .string data1, .int .i64 block2]⟩ w R :=
  calls_of_vc tabOk bdOk mixed (fn := Tryz.f136) (c := bodyOf Tryz.f136) (pl := plan_revertref16_Table_Add) Tryz.func136 (by kernel_rfl) (Nat.le_of_ble_eq_true (by kernel_rfl)) (by kernel_rfl)
    (Eq.mp (show V_revertref16_Table_Add t0 data1 block2 R w = vcFun P Tb Bd plan_revertref16_Table_Add (raw Tryz.f136.ntmps) Tryz.f136.results.toList (bodyOf Tryz.f136) [.pointer t0, .string data1, .int .i64 block2] R w by kernel_rfl) h)

def V_slices_pdqsortOrdered_uint32 (data0 : Option Addr) (data0l data0c : Nat) (a1 : Int) (b2 : Int) (limit3 : Int) (R : Ending → World → Prop) (w : World) : Prop :=
 ∃ (I2 : Tup [(1, (.int .i64)), (2, (.int .i64)), (3, (.int .i64)), (8, .bool), (9, .bool)] → World → Prop) (μ2 : Tup [(1, (.int .i64)), (2, (.int .i64)), (3, (.int .i64)), (8, .bool), (9, .bool)] → World → Nat), I2 (a1, b2, limit3, true, true, ()) w ∧
 ∀ (junk2 : St) (n1 : Int) (n2 : Int) (n3 : Int) (b8 : Bool) (b9 : Bool) (wL2 : World), I2 (n1, n2, n3, b8, b9, ()) wL2 →
 bcase (decide ((IntKind.wrap .i64 (n2 - n1)) ≤ 12)) (
  Calls P F.«slices_insertionSortOrdered_uint32» ⟨[.slice data0 data0l data0c, .int .i64 n1, .int .i64 n2]⟩ wL2 fun e27 w27 => e27 = .returned (.tuple ⟨[]⟩) ∧
  R (.returned (.tuple ⟨[]⟩)) w27)
 (bcase (n3 == 0) (
   Calls P F.«slices_heapSortOrdered_uint32» ⟨[.slice data0 data0l data0c, .int .i64 n1, .int .i64 n2]⟩ wL2 fun e33 w33 => e33 = .returned (.tuple ⟨[]⟩) ∧
   R (.returned (.tuple ⟨[]⟩)) w33)
  (∃ J10 : Tup [(3, (.int .i64))] → World → Prop, (bcase (!b8) (
     Calls P F.«slices_breakPatternsOrdered_uint32» ⟨[.slice data0 data0l data0c, .int .i64 n1, .int .i64 n2]⟩ wL2 fun e39 w39 => e39 = .returned (.tuple ⟨[]⟩) ∧
     J10 ((IntKind.wrap .i64 (n3 - 1)), ()) w39)
    (J10 (n3, ()) wL2)) ∧
   ∀ (junk10 : St) (n3_1 : Int) (wJ10 : World), J10 (n3_1, ()) wJ10 →
   Calls P F.«slices_choosePivotOrdered_uint32» ⟨[.slice data0 data0l data0c, .int .i64 n1, .int .i64 n2]⟩ wJ10 fun e46 w46 => ∃ n46_a : Int, ∃ n46_b : Int, e46 = .returned (.tuple ⟨[.int .i64 n46_a, .int .i64 n46_b]⟩) ∧
   ∃ J15 : Tup [(11, (.int .i64)), (12, (.int .i64))] → World → Prop, (bcase (n46_b == 2) (
     Calls P F.«slices_reverseRangeOrdered_uint32» ⟨[.slice data0 data0l data0c, .int .i64 n1, .int .i64 n2]⟩ w46 fun e54 w54 => e54 = .returned (.tuple ⟨[]⟩) ∧
     J15 ((IntKind.wrap .i64 ((IntKind.wrap .i64 (n2 - 1)) - (IntKind.wrap .i64 (n46_a - n1)))), 1, ()) w54)
    (J15 (n46_a, n46_b, ()) w46)) ∧
   ∀ (junk15 : St) (n11 : Int) (n12 : Int) (wJ15 : World), J15 (n11, n12, ()) wJ15 →
   ∃ J17 : Tup [] → World → Prop, (∃ J16 : Tup [(68, .bool)] → World → Prop, (bcase b8 (
      bcase b9 (
       J16 ((n12 == 1), ()) wJ15)
      (J16 (false, ()) wJ15))
     (J16 (false, ()) wJ15)) ∧
    ∀ (junk16 : St) (b68 : Bool) (wJ16 : World), J16 (b68, ()) wJ16 →
    bcase b68 (
     Calls P F.«slices_partialInsertionSortOrdered_uint32» ⟨[.slice data0 data0l data0c, .int .i64 n1, .int .i64 n2]⟩ wJ16 fun e72 w72 => ∃ b72 : Bool, e72 = .returned (.bool b72) ∧
     bcase b72 (
      R (.returned (.tuple ⟨[]⟩)) w72)
     (J17 () w72))
    (J17 () wJ16)) ∧
   ∀ (junk17 : St) (wJ17 : World), J17 () wJ17 →
   ∃ J20 : Tup [(1, (.int .i64))] → World → Prop, (bcase (decide (n1 > 0)) (
     (0 ≤ (IntKind.wrap .i64 (n1 - 1)) ∧ (IntKind.wrap .i64 (n1 - 1)) < (data0l : Int)) ∧
     ptrW data0 fun a79 =>
     ∃ n80 : Int, wJ17.cell? (a79.add ((IntKind.wrap .i64 (n1 - 1)).toNat * 1)) = some (.int .u32 n80) ∧
     (0 ≤ n11 ∧ n11 < (data0l : Int)) ∧
     ptrW data0 fun a83 =>
     ∃ n84 : Int, wJ17.cell? (a83.add (n11.toNat * 1)) = some (.int .u32 n84) ∧
     ∀ wd17, Drew wJ17 wd17 →
     Calls P F.«cmp_Less_uint32» ⟨[.int .u32 n80, .int .u32 n84]⟩ wd17 fun e85 w85 => ∃ b85 : Bool, e85 = .returned (.bool b85) ∧
     bcase (!b85) (
      Calls P F.«slices_partitionEqualOrdered_uint32» ⟨[.slice data0 data0l data0c, .int .i64 n1, .int .i64 n2, .int .i64 n11]⟩ w85 fun e92 w92 => ∃ n92 : Int, e92 = .returned (.int .i64 n92) ∧
      I2 (n92, n2, n3_1, b8, b9, ()) w92 ∧ μ2 (n92, n2, n3_1, b8, b9, ()) w92 < μ2 (n1, n2, n3, b8, b9, ()) wL2)
     (J20 (n1, ()) w85))
    (∀ wd17, Drew wJ17 wd17 →
     J20 (n1, ()) wd17)) ∧
   ∀ (junk20 : St) (n1_1 : Int) (wJ20 : World), J20 (n1_1, ()) wJ20 →
   Calls P F.«slices_partitionOrdered_uint32» ⟨[.slice data0 data0l data0c, .int .i64 n1_1, .int .i64 n2, .int .i64 n11]⟩ wJ20 fun e99 w99 => ∃ n99_a : Int, ∃ b99_b : Bool, e99 = .returned (.tuple ⟨[.int .i64 n99_a, .bool b99_b]⟩) ∧
   (8 : Int) ≠ 0 ∧ bcase (decide ((IntKind.wrap .i64 (n99_a - n1_1)) < (IntKind.wrap .i64 (n2 - n99_a)))) (
    Calls P F.«slices_pdqsortOrdered_uint32» ⟨[.slice data0 data0l data0c, .int .i64 n1_1, .int .i64 n99_a, .int .i64 n3_1]⟩ w99 fun e121 w121 => e121 = .returned (.tuple ⟨[]⟩) ∧
    I2 ((IntKind.wrap .i64 (n99_a + 1)), n2, n3_1, (decide ((IntKind.wrap .i64 (n99_a - n1_1)) ≥ (IntKind.wrap .i64 (Int.tdiv (IntKind.wrap .i64 (n2 - n1)) 8)))), b99_b, ()) w121 ∧ μ2 ((IntKind.wrap .i64 (n99_a + 1)), n2, n3_1, (decide ((IntKind.wrap .i64 (n99_a - n1_1)) ≥ (IntKind.wrap .i64 (Int.tdiv (IntKind.wrap .i64 (n2 - n1)) 8)))), b99_b, ()) w121 < μ2 (n1, n2, n3, b8, b9, ()) wL2)
   (Calls P F.«slices_pdqsortOrdered_uint32» ⟨[.slice data0 data0l data0c, .int .i64 (IntKind.wrap .i64 (n99_a + 1)), .int .i64 n2, .int .i64 n3_1]⟩ w99 fun e132 w132 => e132 = .returned (.tuple ⟨[]⟩) ∧
    I2 (n1_1, n99_a, n3_1, (decide ((IntKind.wrap .i64 (n2 - n99_a)) ≥ (IntKind.wrap .i64 (Int.tdiv (IntKind.wrap .i64 (n2 - n1)) 8)))), b99_b, ()) w132 ∧ μ2 (n1_1, n99_a, n3_1, (decide ((IntKind.wrap .i64 (n2 - n99_a)) ≥ (IntKind.wrap .i64 (Int.tdiv (IntKind.wrap .i64 (n2 - n1)) 8)))), b99_b, ()) w132 < μ2 (n1, n2, n3, b8, b9, ()) wL2)))
def plan_slices_pdqsortOrdered_uint32 : Plan := { loops := fun i => match i with | 32 => ([(1, (.int .i64)), (2, (.int .i64)), (3, (.int .i64)), (8, .bool), (9, .bool)], [1, 2, 3, 8, 9, 10, 11, 12, 13, 14, 15, 16, 17, 18, 19, 20, 21, 22, 23, 24, 25, 26, 27, 28, 29, 30, 31, 32, 33, 34, 35, 36, 37, 38, 39, 40, 41, 42, 43, 44, 45, 46, 47, 48, 49, 50, 51, 52, 53, 54, 55, 56, 57, 58, 59, 60, 61, 62, 63, 64, 65, 66, 67, 68, 69, 70, 71, 72, 73, 74, 75, 76, 77, 78, 79, 80, 81, 82, 83, 84, 85, 86, 87, 88, 89, 90, 91, 92, 93, 94, 95, 96, 97, 98, 99, 100, 101, 102, 103, 104, 105, 106, 107, 108, 109, 110, 111, 112, 113, 114, 115, 116, 117, 118, 119, 120, 121, 122, 123, 124, 125, 126, 127, 128, 129, 130, 131, 132, 133]) | _ => ([], []), cuts := fun i => match i with | 10 => some ([(3, (.int .i64))], [3, 34, 35, 36, 37, 38, 39, 40, 41]) | 15 => some ([(11, (.int .i64)), (12, (.int .i64))], [11, 12, 49, 50, 51, 52, 53, 54, 55, 56, 57, 58, 59, 60]) | 16 => some ([(68, .bool)], [61, 62, 63, 64, 65, 66, 67, 68]) | 17 => some ([], [61, 62, 63, 64, 65, 66, 67, 68, 69, 70, 71, 72]) | 20 => some ([(1, (.int .i64))], [1, 13, 73, 74, 75, 76, 77, 78, 79, 80, 81, 82, 83, 84, 85, 86, 87, 88, 89, 90, 91, 92, 93]) | _ => none, head := fun i => match i with | 17 => some ([], [0, 1, 2, 3, 4, 5, 6, 7, 8, 9, 10, 11], [12, 13, 14]) | _ => none, rng := fun i => match i with | _ => [] }
theorem ok_slices_pdqsortOrdered_uint32 {data0 : Option Addr} {data0l data0c : Nat} {a1 : Int} {b2 : Int} {limit3 : Int} {R : Ending → World → Prop} {w : World} (h : V_slices_pdqsortOrdered_uint32 data0 data0l data0c a1 b2 limit3 R w) : Calls P F.«slices_pdqsortOrdered_uint32» ⟨[.slice data0 data0l data0c, .int .i64 a1, .int .i64 b2, .int .i64 limit3]⟩ w R :=
  calls_of_vc tabOk bdOk mixed (fn := Tryz.f137) (c := bodyOf Tryz.f137) (pl := plan_slices_pdqsortOrdered_uint32) Tryz.func137 (by kernel_rfl) (Nat.le_of_ble_eq_true (by kernel_rfl)) (by kernel_rfl)
    (Eq.mp (show V_slices_pdqsortOrdered_uint32 data0 data0l data0c a1 b2 limit3 R w = vcFun P Tb Bd plan_slices_pdqsortOrdered_uint32 (raw Tryz.f137.ntmps) Tryz.f137.results.toList (bodyOf Tryz.f137) [.slice data0 data0l data0c, .int .i64 a1, .int .i64 b2, .int .i64 limit3] R w by kernel_rfl) h)

def V_math_bits_Len (x0 : Int) (R : Ending → World → Prop) (w : World) : Prop :=
 Calls P F.«math_bits_Len64» ⟨[.int .u64 x0]⟩ w fun e7 w7 => ∃ n7 : Int, e7 = .returned (.int .i64 n7) ∧
 R (.returned (.int .i64 n7)) w7
def plan_math_bits_Len : Plan := { loops := fun i => match i with | _ => ([], []), cuts := fun i => match i with | _ => none, head := fun i => match i with | _ => none, rng := fun i => match i with | _ => [] }
theorem ok_math_bits_Len {x0 : Int} {R : Ending → World → Prop} {w : World} (h : V_math_bits_Len x0 R w) : Calls P F.«math_bits_Len» ⟨[.int .u64 x0]⟩ w R :=
  calls_of_vc tabOk bdOk mixed (fn := Tryz.f138) (c := bodyOf Tryz.f138) (pl := plan_math_bits_Len) Tryz.func138 (by kernel_rfl) (Nat.le_of_ble_eq_true (by kernel_rfl)) (by kernel_rfl)
    (Eq.mp (show V_math_bits_Len x0 R w = vcFun P Tb Bd plan_math_bits_Len (raw Tryz.f138.ntmps) Tryz.f138.results.toList (bodyOf Tryz.f138) [.int .u64 x0] R w by kernel_rfl) h)

def V_hash_Index_Add (x0 : Option Addr) (s1 : ByteArray) (id2 : Int) (R : Ending → World → Prop) (w : World) : Prop :=
 Calls P F.«hash_Index_is» ⟨[.pointer x0]⟩ w fun e9 w9 => ∃ b9 : Bool, e9 = .returned (.bool b9) ∧
 bcase (!b9) (
  R (.returned (.int .i64 1)) w9)
 (ptrW x0 fun a14 =>
  ∀ wd3, Drew w9 wd3 →
  Calls P F.«hash_Bucket» ⟨[.string s1]⟩ wd3 fun e13 w13 => ∃ n13 : Int, e13 = .returned (.int .u8 n13) ∧
  (0 ≤ n13 ∧ n13 < ((16 : Nat) : Int)) ∧
  ∃ (a19 : Option Addr) (l19 c19 : Nat), w13.cell? ((a14.add 1).add (n13.toNat * 1)) = some (.slice a19 l19 c19) ∧
  Calls P F.«slices_Contains_sl_uint32_uint32» ⟨[.slice a19 l19 c19, .int .u32 id2]⟩ w13 fun e21 w21 => ∃ b21 : Bool, e21 = .returned (.bool b21) ∧
  bcase b21 (
   R (.returned (.int .i64 6)) w21)
  (∃ (a25 : Option Addr) (l25 c25 : Nat), w21.cell? ((a14.add 1).add (n13.toNat * 1)) = some (.slice a25 l25 c25) ∧
   ∃ (a27 : Option Addr) (l27 c27 : Nat), ∃ w27, (Instr.buildSlice T.«l_u32» 1 ⟨[(0, .int .u32 id2)]⟩).run P w21 = .ok (.slice a27 l27 c27) w27 ∧
   ∃ (a28 : Option Addr) (l28 c28 : Nat), ∃ w28, (Builtin.append_ ⟨[T.«l_u32», T.«l_u32»]⟩ T.«l_u32» ⟨[.slice a25 l25 c25, .slice a27 l27 c27]⟩).run P w27 = .ok (.slice a28 l28 c28) w28 ∧
   (∃ old, w28.cell? (((a14.add 1).add (n13.toNat * 1)).add 0) = some old) ∧ w28.frozen? (((a14.add 1).add (n13.toNat * 1)).add 0) = false ∧
   letW (w28.setCell (((a14.add 1).add (n13.toNat * 1)).add 0) (.slice a28 l28 c28)) fun u0 =>
   R (.returned (.int .i64 0)) u0))
def plan_hash_Index_Add : Plan := { loops := fun i => match i with | _ => ([], []), cuts := fun i => match i with | _ => none, head := fun i => match i with | 3 => some ([0, 3, 4], [1], [2, 5, 6]) | _ => none, rng := fun i => match i with | _ => [] }
theorem ok_hash_Index_Add {x0 : Option Addr} {s1 : ByteArray} {id2 : Int} {R : Ending → World → Prop} {w : World} (h : V_hash_Index_Add x0 s1 id2 R w) : Calls P F.«hash_Index_Add» ⟨[.pointer x0, .string s1, .int .u32 id2]⟩ w R :=
  calls_of_vc tabOk bdOk mixed (fn := Tryz.f142) (c := bodyOf Tryz.f142) (pl := plan_hash_Index_Add) Tryz.func142 (by kernel_rfl) (Nat.le_of_ble_eq_true (by kernel_rfl)) (by kernel_rfl)
    (Eq.mp (show V_hash_Index_Add x0 s1 id2 R w = vcFun P Tb Bd plan_hash_Index_Add (raw Tryz.f142.ntmps) Tryz.f142.results.toList (bodyOf Tryz.f142) [.pointer x0, .string s1, .int .u32 id2] R w by kernel_rfl) h)

def V_pool_Plan_each_1 (c0 : Option Addr) (c1 : Option Addr) (R : Ending → World → Prop) (w : World) : Prop :=
 ptrW c0 fun a6 =>
 ∃ (a6_1 : Option Addr) (l6 c6 : Nat), w.cell? a6 = some (.slice a6_1 l6 c6) ∧
 ∃ (I2 : Tup [(8, (.int .i64))] → World → Prop) (μ2 : Tup [(8, (.int .i64))] → World → Nat), I2 (0, ()) w ∧
 ∀ (junk2 : St) (n8 : Int) (wL2 : World), I2 (n8, ()) wL2 →
 bcase (decide (n8 < (l6 : Int))) (
  (0 ≤ n8 ∧ n8 < (l6 : Int)) ∧
  ptrW a6_1 fun a10 =>
  ∃ n11 : Int, wL2.cell? (a10.add (n8.toNat * 1)) = some (.int .u32 n11) ∧
  ptrW c1 fun a12 =>
  ∃ v12 : Value, wL2.cell? a12 = some (v12) ∧
  callV P Bd v12 [.int .u32 n11] wL2 fun e14 w14 => ∃ n14 : Int, e14 = .returned (.int .i64 n14) ∧
  bcase (n14 != 0) (
   R (.returned (.int .i64 n14)) w14)
  (I2 ((IntKind.wrap .i64 (n8 + 1)), ()) w14 ∧ μ2 ((IntKind.wrap .i64 (n8 + 1)), ()) w14 < μ2 (n8, ()) wL2))
 (R (.returned (.int .i64 0)) wL2)
def plan_pool_Plan_each_1 : Plan := { loops := fun i => match i with | 32 => ([(8, (.int .i64))], [2, 4, 5, 8, 9, 10, 11, 12, 13, 14, 15, 16, 17, 18]) | _ => ([], []), cuts := fun i => match i with | _ => none, head := fun i => match i with | _ => none, rng := fun i => match i with | _ => [] }
theorem ok_pool_Plan_each_1 {c0 : Option Addr} {c1 : Option Addr} {R : Ending → World → Prop} {w : World} (h : V_pool_Plan_each_1 c0 c1 R w) : Calls P F.«pool_Plan_each_1» ⟨[.pointer c0, .pointer c1]⟩ w R :=
  calls_of_vc tabOk bdOk mixed (fn := Tryz.f143) (c := bodyOf Tryz.f143) (pl := plan_pool_Plan_each_1) Tryz.func143 (by kernel_rfl) (Nat.le_of_ble_eq_true (by kernel_rfl)) (by kernel_rfl)
    (Eq.mp (show V_pool_Plan_each_1 c0 c1 R w = vcFun P Tb Bd plan_pool_Plan_each_1 (raw Tryz.f143.ntmps) Tryz.f143.results.toList (bodyOf Tryz.f143) [.pointer c0, .pointer c1] R w by kernel_rfl) h)

def V_hash_Index_Drop (x0 : Option Addr) (s1 : ByteArray) (id2 : Int) (R : Ending → World → Prop) (w : World) : Prop :=
 Calls P F.«hash_Index_is» ⟨[.pointer x0]⟩ w fun e10 w10 => ∃ b10 : Bool, e10 = .returned (.bool b10) ∧
 bcase (!b10) (
  R (.returned (.int .i64 1)) w10)
 (ptrW x0 fun a15 =>
  ∀ wd3, Drew w10 wd3 →
  Calls P F.«hash_Bucket» ⟨[.string s1]⟩ wd3 fun e14 w14 => ∃ n14 : Int, e14 = .returned (.int .u8 n14) ∧
  (0 ≤ n14 ∧ n14 < ((16 : Nat) : Int)) ∧
  ∃ (a20 : Option Addr) (l20 c20 : Nat), w14.cell? ((a15.add 1).add (n14.toNat * 1)) = some (.slice a20 l20 c20) ∧
  Calls P F.«slices_Index_sl_uint32_uint32» ⟨[.slice a20 l20 c20, .int .u32 id2]⟩ w14 fun e22 w22 => ∃ n22 : Int, e22 = .returned (.int .i64 n22) ∧
  bcase (decide (n22 < 0)) (
   R (.returned (.int .i64 5)) w22)
  (∃ (a28 : Option Addr) (l28 c28 : Nat), w22.cell? ((a15.add 1).add (n14.toNat * 1)) = some (.slice a28 l28 c28) ∧
   Calls P F.«slices_Delete_sl_uint32_uint32» ⟨[.slice a28 l28 c28, .int .i64 n22, .int .i64 (IntKind.wrap .i64 (n22 + 1))]⟩ w22 fun e32 w32 => ∃ (a32 : Option Addr) (l32 c32 : Nat), e32 = .returned (.slice a32 l32 c32) ∧
   (∃ old, w32.cell? (((a15.add 1).add (n14.toNat * 1)).add 0) = some old) ∧ w32.frozen? (((a15.add 1).add (n14.toNat * 1)).add 0) = false ∧
   letW (w32.setCell (((a15.add 1).add (n14.toNat * 1)).add 0) (.slice a32 l32 c32)) fun u0 =>
   R (.returned (.int .i64 0)) u0))
def plan_hash_Index_Drop : Plan := { loops := fun i => match i with | _ => ([], []), cuts := fun i => match i with | _ => none, head := fun i => match i with | 3 => some ([0, 3, 4], [1], [2, 5, 6]) | _ => none, rng := fun i => match i with | _ => [] }
theorem ok_hash_Index_Drop {x0 : Option Addr} {s1 : ByteArray} {id2 : Int} {R : Ending → World → Prop} {w : World} (h : V_hash_Index_Drop x0 s1 id2 R w) : Calls P F.«hash_Index_Drop» ⟨[.pointer x0, .string s1, .int .u32 id2]⟩ w R :=
  calls_of_vc tabOk bdOk mixed (fn := Tryz.f144) (c := bodyOf Tryz.f144) (pl := plan_hash_Index_Drop) Tryz.func144 (by kernel_rfl) (Nat.le_of_ble_eq_true (by kernel_rfl)) (by kernel_rfl)
    (Eq.mp (show V_hash_Index_Drop x0 s1 id2 R w = vcFun P Tb Bd plan_hash_Index_Drop (raw Tryz.f144.ntmps) Tryz.f144.results.toList (bodyOf Tryz.f144) [.pointer x0, .string s1, .int .u32 id2] R w by kernel_rfl) h)

def V_line_Line_Flush_1 (c0 : Option Addr) (R : Ending → World → Prop) (w : World) : Prop :=
 ptrW c0 fun a2 =>
 ∃ p2 : Option Addr, w.cell? a2 = some (.pointer p2) ∧
 ptrW p2 fun a3 =>
 ∃ p5 : Option Addr, w.cell? (a3.add 0) = some (.pointer p5) ∧
 Calls P F.«device_Device_Flush» ⟨[.pointer p5]⟩ w fun e6 w6 => ∃ n6 : Int, e6 = .returned (.int .i64 n6) ∧
 R (.returned (.int .i64 0)) w6
def plan_line_Line_Flush_1 : Plan := { loops := fun i => match i with | _ => ([], []), cuts := fun i => match i with | _ => none, head := fun i => match i with | _ => none, rng := fun i => match i with | _ => [] }
theorem ok_line_Line_Flush_1 {c0 : Option Addr} {R : Ending → World → Prop} {w : World} (h : V_line_Line_Flush_1 c0 R w) : Calls P F.«line_Line_Flush_1» ⟨[.pointer c0]⟩ w R :=
  calls_of_vc tabOk bdOk mixed (fn := Tryz.f145) (c := bodyOf Tryz.f145) (pl := plan_line_Line_Flush_1) Tryz.func145 (by kernel_rfl) (Nat.le_of_ble_eq_true (by kernel_rfl)) (by kernel_rfl)
    (Eq.mp (show V_line_Line_Flush_1 c0 R w = vcFun P Tb Bd plan_line_Line_Flush_1 (raw Tryz.f145.ntmps) Tryz.f145.results.toList (bodyOf Tryz.f145) [.pointer c0] R w by kernel_rfl) h)

def V_device_Device_Flush (d0 : Option Addr) (R : Ending → World → Prop) (w : World) : Prop :=
 Calls P F.«device_Device_settle» ⟨[.pointer d0, .func (.func F.«device_Device_Flush_1») ⟨[]⟩ ⟨[]⟩]⟩ w fun e4 w4 => ∃ n4 : Int, e4 = .returned (.int .i64 n4) ∧
 R (.returned (.int .i64 n4)) w4
def plan_device_Device_Flush : Plan := { loops := fun i => match i with | _ => ([], []), cuts := fun i => match i with | _ => none, head := fun i => match i with | _ => none, rng := fun i => match i with | _ => [] }
theorem ok_device_Device_Flush {d0 : Option Addr} {R : Ending → World → Prop} {w : World} (h : V_device_Device_Flush d0 R w) : Calls P F.«device_Device_Flush» ⟨[.pointer d0]⟩ w R :=
  calls_of_vc tabOk bdOk mixed (fn := Tryz.f146) (c := bodyOf Tryz.f146) (pl := plan_device_Device_Flush) Tryz.func146 (by kernel_rfl) (Nat.le_of_ble_eq_true (by kernel_rfl)) (by kernel_rfl)
    (Eq.mp (show V_device_Device_Flush d0 R w = vcFun P Tb Bd plan_device_Device_Flush (raw Tryz.f146.ntmps) Tryz.f146.results.toList (bodyOf Tryz.f146) [.pointer d0] R w by kernel_rfl) h)

def V_maps_Keys_map_uint32_dedup_chunk_uint32_dedup_chunk_1 (yield0 : Value) (c1 : Option Addr) (R : Ending → World → Prop) (w : World) : Prop :=
 ptrW c1 fun a4 =>
 ∃ m4 : Option Nat, w.cell? a4 = some (.map m4) ∧
 ∃ p5 : Option Addr, ∃ w5, (Instr.range T.«m_u32_dedup_chunk» (.map m4)).run P w = .ok (.pointer p5) w5 ∧
 ∃ (I1 : Tup [] → World → Prop) (μ1 : Tup [] → World → Nat), I1 () w5 ∧
 ∀ (junk1 : St) (wL1 : World), I1 () wL1 →
 ∃ v6 w6, (Instr.next (.pointer p5) false T.«tup_»).run P wL1 = .ok v6 w6 ∧
 onTup v6 fun l7 => lgetW l7 0 fun v7 =>
 onBool v7 fun bc => bcase bc (
  ∃ v8 w8, (Instr.entry (.pointer p5)).run P w6 = .ok v8 w8 ∧
  onTup v8 fun l9 => lgetW l9 0 fun v9 =>
  callV P Bd yield0 [v9] w8 fun e12 w12 => ∃ b12 : Bool, e12 = .returned (.bool b12) ∧
  bcase (!b12) (
   R (.returned (.tuple ⟨[]⟩)) w12)
  (I1 () w12 ∧ μ1 () w12 < μ1 () wL1))
 (R (.returned (.tuple ⟨[]⟩)) w6)
def plan_maps_Keys_map_uint32_dedup_chunk_uint32_dedup_chunk_1 : Plan := { loops := fun i => match i with | 16 => ([], [3, 6, 7, 8, 9, 10, 11, 12, 13]) | _ => ([], []), cuts := fun i => match i with | _ => none, head := fun i => match i with | _ => none, rng := fun i => match i with | _ => [] }
theorem ok_maps_Keys_map_uint32_dedup_chunk_uint32_dedup_chunk_1 {yield0 : Value} {c1 : Option Addr} {R : Ending → World → Prop} {w : World} (h : V_maps_Keys_map_uint32_dedup_chunk_uint32_dedup_chunk_1 yield0 c1 R w) : Calls P F.«maps_Keys_map_uint32_dedup_chunk_uint32_dedup_chunk_1» ⟨[yield0, .pointer c1]⟩ w R :=
  calls_of_vc tabOk bdOk mixed (fn := Tryz.f147) (c := bodyOf Tryz.f147) (pl := plan_maps_Keys_map_uint32_dedup_chunk_uint32_dedup_chunk_1) Tryz.func147 (by kernel_rfl) (Nat.le_of_ble_eq_true (by kernel_rfl)) (by kernel_rfl)
    (Eq.mp (show V_maps_Keys_map_uint32_dedup_chunk_uint32_dedup_chunk_1 yield0 c1 R w = vcFun P Tb Bd plan_maps_Keys_map_uint32_dedup_chunk_uint32_dedup_chunk_1 (raw Tryz.f147.ntmps) Tryz.f147.results.toList (bodyOf Tryz.f147) [yield0, .pointer c1] R w by kernel_rfl) h)

def V_space_Space_All_1 (yield0 : Value) (c1 : Option Addr) (R : Ending → World → Prop) (w : World) : Prop :=
 ptrW c1 fun a4 =>
 ∃ p4 : Option Addr, w.cell? a4 = some (.pointer p4) ∧
 Calls P F.«space_Space_is» ⟨[.pointer p4]⟩ w fun e5 w5 => ∃ b5 : Bool, e5 = .returned (.bool b5) ∧
 bcase (!b5) (
  R (.returned (.tuple ⟨[]⟩)) w5)
 (ptrW c1 fun a7 =>
  ∃ p7 : Option Addr, w5.cell? a7 = some (.pointer p7) ∧
  ptrW p7 fun a8 =>
  ∃ n10 : Int, w5.cell? (a8.add 0) = some (.int .i64 n10) ∧
  ∃ (I2 : Tup [(3, (.int .i64))] → World → Prop) (μ2 : Tup [(3, (.int .i64))] → World → Nat), I2 (n10, ()) w5 ∧
  ∀ (junk2 : St) (n3 : Int) (wL2 : World), I2 (n3, ()) wL2 →
  ptrW c1 fun a12 =>
  ∃ p12 : Option Addr, wL2.cell? a12 = some (.pointer p12) ∧
  ptrW p12 fun a13 =>
  ∃ n15 : Int, wL2.cell? (a13.add 1) = some (.int .i64 n15) ∧
  bcase (decide (n3 < n15)) (
   ptrW c1 fun a19 =>
   ∃ p19 : Option Addr, wL2.cell? a19 = some (.pointer p19) ∧
   Calls P F.«space_Space_Free» ⟨[.pointer p19, .int .i64 n3]⟩ wL2 fun e21 w21 => ∃ b21 : Bool, e21 = .returned (.bool b21) ∧
   bcase b21 (
    callV P Bd yield0 [.int .i64 n3] w21 fun e25 w25 => ∃ b25 : Bool, e25 = .returned (.bool b25) ∧
    bcase (!b25) (
     R (.returned (.tuple ⟨[]⟩)) w25)
    (I2 ((IntKind.wrap .i64 (n3 + 1)), ()) w25 ∧ μ2 ((IntKind.wrap .i64 (n3 + 1)), ()) w25 < μ2 (n3, ()) wL2))
   (I2 ((IntKind.wrap .i64 (n3 + 1)), ()) w21 ∧ μ2 ((IntKind.wrap .i64 (n3 + 1)), ()) w21 < μ2 (n3, ()) wL2))
  (R (.returned (.tuple ⟨[]⟩)) wL2))
def plan_space_Space_All_1 : Plan := { loops := fun i => match i with | 32 => ([(3, (.int .i64))], [3, 11, 12, 13, 14, 15, 16, 17, 18, 19, 20, 21, 22, 23, 24, 25, 26, 27]) | _ => ([], []), cuts := fun i => match i with | _ => none, head := fun i => match i with | _ => none, rng := fun i => match i with | _ => [] }
theorem ok_space_Space_All_1 {yield0 : Value} {c1 : Option Addr} {R : Ending → World → Prop} {w : World} (h : V_space_Space_All_1 yield0 c1 R w) : Calls P F.«space_Space_All_1» ⟨[yield0, .pointer c1]⟩ w R :=
  calls_of_vc tabOk bdOk mixed (fn := Tryz.f148) (c := bodyOf Tryz.f148) (pl := plan_space_Space_All_1) Tryz.func148 (by kernel_rfl) (Nat.le_of_ble_eq_true (by kernel_rfl)) (by kernel_rfl)
    (Eq.mp (show V_space_Space_All_1 yield0 c1 R w = vcFun P Tb Bd plan_space_Space_All_1 (raw Tryz.f148.ntmps) Tryz.f148.results.toList (bodyOf Tryz.f148) [yield0, .pointer c1] R w by kernel_rfl) h)

def V_space_Space_Free (s0 : Option Addr) (atx1 : Int) (R : Ending → World → Prop) (w : World) : Prop :=
 Calls P F.«space_Space_rules» ⟨[.pointer s0, .int .i64 atx1]⟩ w fun e9 w9 => ∃ n9 : Int, e9 = .returned (.int .i64 n9) ∧
 bcase (n9 != 0) (
  R (.returned (.bool false)) w9)
 (Calls P F.«space_Space_bit» ⟨[.pointer s0, .int .i64 atx1]⟩ w9 fun e14 w14 => ∃ p14_a : Option Addr, ∃ n14_b : Int, e14 = .returned (.tuple ⟨[.pointer p14_a, .int .u64 n14_b]⟩) ∧
  ptrW p14_a fun a18 =>
  ∃ n19 : Int, w14.cell? a18 = some (.int .u64 n19) ∧
  R (.returned (.bool ((bits .and .u64 n19 n14_b) == 0))) w14)
def plan_space_Space_Free : Plan := { loops := fun i => match i with | _ => ([], []), cuts := fun i => match i with | _ => none, head := fun i => match i with | _ => none, rng := fun i => match i with | _ => [] }
theorem ok_space_Space_Free {s0 : Option Addr} {atx1 : Int} {R : Ending → World → Prop} {w : World} (h : V_space_Space_Free s0 atx1 R w) : Calls P F.«space_Space_Free» ⟨[.pointer s0, .int .i64 atx1]⟩ w R :=
  calls_of_vc tabOk bdOk mixed (fn := Tryz.f149) (c := bodyOf Tryz.f149) (pl := plan_space_Space_Free) Tryz.func149 (by kernel_rfl) (Nat.le_of_ble_eq_true (by kernel_rfl)) (by kernel_rfl)
    (Eq.mp (show V_space_Space_Free s0 atx1 R w = vcFun P Tb Bd plan_space_Space_Free (raw Tryz.f149.ntmps) Tryz.f149.results.toList (bodyOf Tryz.f149) [.pointer s0, .int .i64 atx1] R w by kernel_rfl) h)

def V_hash_Index_Find (x0 : Option Addr) (s1 : ByteArray) (R : Ending → World → Prop) (w : World) : Prop :=
 Calls P F.«hash_Index_is» ⟨[.pointer x0]⟩ w fun e6 w6 => ∃ b6 : Bool, e6 = .returned (.bool b6) ∧
 bcase (!b6) (
  R (.returned (.slice none 0 0)) w6)
 (∃ n10 : Int, qcall P F.«hash_Bucket» ⟨[.string s1]⟩ w6 (.int .u8 n10) ∧
  ptrW x0 fun a11 =>
  (0 ≤ n10 ∧ n10 < ((16 : Nat) : Int)) ∧
  ∃ (a14 : Option Addr) (l14 c14 : Nat), w6.cell? ((a11.add 1).add (n10.toNat * 1)) = some (.slice a14 l14 c14) ∧
  ∀ wd3, Drew w6 wd3 →
  Calls P F.«slices_Clone_sl_uint32_uint32» ⟨[.slice a14 l14 c14]⟩ wd3 fun e15 w15 => ∃ (a15 : Option Addr) (l15 c15 : Nat), e15 = .returned (.slice a15 l15 c15) ∧
  R (.returned (.slice a15 l15 c15)) w15)
def plan_hash_Index_Find : Plan := { loops := fun i => match i with | _ => ([], []), cuts := fun i => match i with | _ => none, head := fun i => match i with | 3 => some ([], [0, 1, 2, 3, 4, 5, 6], [7, 8]) | _ => none, rng := fun i => match i with | _ => [] }
theorem ok_hash_Index_Find {x0 : Option Addr} {s1 : ByteArray} {R : Ending → World → Prop} {w : World} (h : V_hash_Index_Find x0 s1 R w) : Calls P F.«hash_Index_Find» ⟨[.pointer x0, .string s1]⟩ w R :=
  calls_of_vc tabOk bdOk mixed (fn := Tryz.f150) (c := bodyOf Tryz.f150) (pl := plan_hash_Index_Find) Tryz.func150 (by kernel_rfl) (Nat.le_of_ble_eq_true (by kernel_rfl)) (by kernel_rfl)
    (Eq.mp (show V_hash_Index_Find x0 s1 R w = vcFun P Tb Bd plan_hash_Index_Find (raw Tryz.f150.ntmps) Tryz.f150.results.toList (bodyOf Tryz.f150) [.pointer x0, .string s1] R w by kernel_rfl) h)

def V_dedup_Table_may (t0 : Option Addr) (data1 : ByteArray) (R : Ending → World → Prop) (w : World) : Prop :=
 bcase (data1.toList == (bs []).toList) (
  R (.returned (.int .i64 4)) w)
 (bcase (decide ((data1.size : Int) > 64)) (
   R (.returned (.int .i64 4)) w)
  (Calls P F.«dedup_Table_Find» ⟨[.pointer t0, .string data1]⟩ w fun e17 w17 => ∃ n17_a : Int, ∃ b17_b : Bool, e17 = .returned (.tuple ⟨[.int .u32 n17_a, .bool b17_b]⟩) ∧
   bcase b17_b (
    R (.returned (.int .i64 6)) w17)
   (R (.returned (.int .i64 0)) w17)))
def plan_dedup_Table_may : Plan := { loops := fun i => match i with | _ => ([], []), cuts := fun i => match i with | _ => none, head := fun i => match i with | _ => none, rng := fun i => match i with | _ => [] }
theorem ok_dedup_Table_may {t0 : Option Addr} {data1 : ByteArray} {R : Ending → World → Prop} {w : World} (h : V_dedup_Table_may t0 data1 R w) : Calls P F.«dedup_Table_may» ⟨[.pointer t0, .string data1]⟩ w R :=
  calls_of_vc tabOk bdOk mixed (fn := Tryz.f151) (c := bodyOf Tryz.f151) (pl := plan_dedup_Table_may) Tryz.func151 (by kernel_rfl) (Nat.le_of_ble_eq_true (by kernel_rfl)) (by kernel_rfl)
    (Eq.mp (show V_dedup_Table_may t0 data1 R w = vcFun P Tb Bd plan_dedup_Table_may (raw Tryz.f151.ntmps) Tryz.f151.results.toList (bodyOf Tryz.f151) [.pointer t0, .string data1] R w by kernel_rfl) h)

end Go.Proofs.YtgepmlgkeljelaaGreat.Vc
