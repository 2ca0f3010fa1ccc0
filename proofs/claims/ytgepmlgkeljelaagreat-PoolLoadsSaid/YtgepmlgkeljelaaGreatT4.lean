/- Conditions of functions, and that they are enough. Written by vcgen.py. -/
import Derived.Test.YtgepmlgkeljelaaGreatTab
set_option maxRecDepth 100000
namespace Go.Proofs.YtgepmlgkeljelaaGreat.Vc
open Go
def V_device_Device_Crash (d0 : Option Addr) (choices1 : Option Addr) (choices1l choices1c : Nat) (R : Ending → World → Prop) (w : World) : Prop :=
 letW (w.alloc (.cells ⟨[.slice choices1 choices1l choices1c]⟩ T.«l_i64»)) fun u0 =>
 Calls P F.«device_Device_settle» ⟨[.pointer d0, .func (.func F.«device_Device_Crash_1») ⟨[]⟩ ⟨[.pointer (some ⟨w.heap.size, 0, none⟩)]⟩]⟩ u0 fun e6 w6 => ∃ n6 : Int, e6 = .returned (.int .i64 n6) ∧
 R (.returned (.tuple ⟨[]⟩)) w6
def plan_device_Device_Crash : Plan := { loops := fun i => match i with | _ => ([], []), cuts := fun i => match i with | _ => none, head := fun i => match i with | _ => none, rng := fun i => match i with | _ => [] }
theorem ok_device_Device_Crash {d0 : Option Addr} {choices1 : Option Addr} {choices1l choices1c : Nat} {R : Ending → World → Prop} {w : World} (h : V_device_Device_Crash d0 choices1 choices1l choices1c R w) : Calls P F.«device_Device_Crash» ⟨[.pointer d0, .slice choices1 choices1l choices1c]⟩ w R :=
  calls_of_vc tabOk bdOk mixed (fn := Tryz.f152) (c := bodyOf Tryz.f152) (pl := plan_device_Device_Crash) Tryz.func152 (by kernel_rfl) (Nat.le_of_ble_eq_true (by kernel_rfl)) (by kernel_rfl)
    (Eq.mp (show V_device_Device_Crash d0 choices1 choices1l choices1c R w = vcFun P Tb Bd plan_device_Device_Crash (raw Tryz.f152.ntmps) Tryz.f152.results.toList (bodyOf Tryz.f152) [.pointer d0, .slice choices1 choices1l choices1c] R w by kernel_rfl) h)

def V_device_Device_Read (d0 : Option Addr) (atx1 : Int) (R : Ending → World → Prop) (w : World) : Prop :=
 Calls P F.«device_Device_at» ⟨[.pointer d0, .int .i64 atx1]⟩ w fun e11 w11 => ∃ p11_a : Option Addr, ∃ n11_b : Int, e11 = .returned (.tuple ⟨[.pointer p11_a, .int .i64 n11_b]⟩) ∧
 bcase (n11_b != 0) (
  R (.returned (.tuple ⟨[.string (bs []), .int .i64 n11_b]⟩)) w11)
 (ptrW p11_a fun a18 =>
  (0 ≤ (0 : Int) ∧ (0 : Int) ≤ ((64 : Nat) : Int) ∧ ((64 : Nat) : Int) ≤ ((64 : Nat) : Int)) ∧
  ∃ s21 : ByteArray, ∃ w21, (convert T.«l_u8» T.«string» (.slice (some (if 64 = (0 : Int).toNat then (a18.add 64) else (a18.add 64).add ((0 : Int).toNat * 1))) (((64 : Nat) : Int).toNat - (0 : Int).toNat) (64 - (0 : Int).toNat))).run P w11 = .ok (.string s21) w21 ∧
  R (.returned (.tuple ⟨[.string s21, .int .i64 0]⟩)) w21)
def plan_device_Device_Read : Plan := { loops := fun i => match i with | _ => ([], []), cuts := fun i => match i with | _ => none, head := fun i => match i with | _ => none, rng := fun i => match i with | _ => [] }
theorem ok_device_Device_Read {d0 : Option Addr} {atx1 : Int} {R : Ending → World → Prop} {w : World} (h : V_device_Device_Read d0 atx1 R w) : Calls P F.«device_Device_Read» ⟨[.pointer d0, .int .i64 atx1]⟩ w R :=
  calls_of_vc tabOk bdOk mixed (fn := Tryz.f153) (c := bodyOf Tryz.f153) (pl := plan_device_Device_Read) Tryz.func153 (by kernel_rfl) (Nat.le_of_ble_eq_true (by kernel_rfl)) (by kernel_rfl)
    (Eq.mp (show V_device_Device_Read d0 atx1 R w = vcFun P Tb Bd plan_device_Device_Read (raw Tryz.f153.ntmps) Tryz.f153.results.toList (bodyOf Tryz.f153) [.pointer d0, .int .i64 atx1] R w by kernel_rfl) h)

def V_slices_insertionSortOrdered_uint32 (data0 : Option Addr) (data0l data0c : Nat) (a1 : Int) (b2 : Int) (R : Ending → World → Prop) (w : World) : Prop :=
 ∃ (I1 : Tup [(6, (.int .i64))] → World → Prop) (μ1 : Tup [(6, (.int .i64))] → World → Nat), I1 ((IntKind.wrap .i64 (a1 + 1)), ()) w ∧
 ∀ (junk1 : St) (n6 : Int) (wL1 : World), I1 (n6, ()) wL1 →
 bcase (decide (n6 < b2)) (
  ∃ (I4 : Tup [(7, (.int .i64))] → World → Prop) (μ4 : Tup [(7, (.int .i64))] → World → Nat), I4 (n6, ()) wL1 ∧
  ∀ (junk4 : St) (n7 : Int) (wL4 : World), I4 (n7, ()) wL4 →
  bcase (decide (n7 > a1)) (
   (0 ≤ n7 ∧ n7 < (data0l : Int)) ∧
   ptrW data0 fun a22 =>
   ∃ n23 : Int, wL4.cell? (a22.add (n7.toNat * 1)) = some (.int .u32 n23) ∧
   (0 ≤ (IntKind.wrap .i64 (n7 - 1)) ∧ (IntKind.wrap .i64 (n7 - 1)) < (data0l : Int)) ∧
   ptrW data0 fun a27 =>
   ∃ n28 : Int, wL4.cell? (a27.add ((IntKind.wrap .i64 (n7 - 1)).toNat * 1)) = some (.int .u32 n28) ∧
   ∀ wd4, Drew wL4 wd4 →
   Calls P F.«cmp_Less_uint32» ⟨[.int .u32 n23, .int .u32 n28]⟩ wd4 fun e29 w29 => ∃ b29 : Bool, e29 = .returned (.bool b29) ∧
   bcase b29 (
    (0 ≤ (IntKind.wrap .i64 (n7 - 1)) ∧ (IntKind.wrap .i64 (n7 - 1)) < (data0l : Int)) ∧
    ptrW data0 fun a41 =>
    ∃ n42 : Int, w29.cell? (a41.add ((IntKind.wrap .i64 (n7 - 1)).toNat * 1)) = some (.int .u32 n42) ∧
    (0 ≤ n7 ∧ n7 < (data0l : Int)) ∧
    ptrW data0 fun a45 =>
    ∃ n46 : Int, w29.cell? (a45.add (n7.toNat * 1)) = some (.int .u32 n46) ∧
    (0 ≤ n7 ∧ n7 < (data0l : Int)) ∧
    ptrW data0 fun a47 =>
    ∀ wd6, Drew w29 wd6 →
    (∃ old, wd6.cell? ((a47.add (n7.toNat * 1)).add 0) = some old) ∧ wd6.frozen? ((a47.add (n7.toNat * 1)).add 0) = false ∧
    letW (wd6.setCell ((a47.add (n7.toNat * 1)).add 0) (.int .u32 n42)) fun u0 =>
    (0 ≤ (IntKind.wrap .i64 (n7 - 1)) ∧ (IntKind.wrap .i64 (n7 - 1)) < (data0l : Int)) ∧
    ptrW data0 fun a48 =>
    (∃ old, u0.cell? ((a48.add ((IntKind.wrap .i64 (n7 - 1)).toNat * 1)).add 0) = some old) ∧ u0.frozen? ((a48.add ((IntKind.wrap .i64 (n7 - 1)).toNat * 1)).add 0) = false ∧
    letW (u0.setCell ((a48.add ((IntKind.wrap .i64 (n7 - 1)).toNat * 1)).add 0) (.int .u32 n46)) fun u0_1 =>
    I4 ((IntKind.wrap .i64 (n7 - 1)), ()) u0_1 ∧ μ4 ((IntKind.wrap .i64 (n7 - 1)), ()) u0_1 < μ4 (n7, ()) wL4)
   (I1 ((IntKind.wrap .i64 (n6 + 1)), ()) w29 ∧ μ1 ((IntKind.wrap .i64 (n6 + 1)), ()) w29 < μ1 (n6, ()) wL1))
  (∀ wd4, Drew wL4 wd4 →
   I1 ((IntKind.wrap .i64 (n6 + 1)), ()) wd4 ∧ μ1 ((IntKind.wrap .i64 (n6 + 1)), ()) wd4 < μ1 (n6, ()) wL1))
 (R (.returned (.tuple ⟨[]⟩)) wL1)
def plan_slices_insertionSortOrdered_uint32 : Plan := { loops := fun i => match i with | 16 => ([(6, (.int .i64))], [6, 7, 10, 11, 12, 13, 14, 15, 16, 17, 18, 19, 20, 21, 22, 23, 24, 25, 26, 27, 28, 29, 30, 31, 32, 33, 34, 35, 36, 37, 38, 39, 40, 41, 42, 43, 44, 45, 46, 47, 48]) | 64 => ([(7, (.int .i64))], [7, 16, 17, 18, 19, 20, 21, 22, 23, 24, 25, 26, 27, 28, 29, 30, 31, 32, 33, 34, 35, 36, 37, 38, 39, 40, 41, 42, 43, 44, 45, 46, 47, 48]) | _ => ([], []), cuts := fun i => match i with | _ => none, head := fun i => match i with | 4 => some ([], [0, 1, 2, 3, 4, 5, 6, 7, 8, 9, 10, 11, 12], [13, 14]) | 6 => some ([2, 3, 4], [0, 1, 5, 6, 7, 8, 9, 10, 11, 12, 13, 14], [15, 16, 17]) | _ => none, rng := fun i => match i with | _ => [] }
theorem ok_slices_insertionSortOrdered_uint32 {data0 : Option Addr} {data0l data0c : Nat} {a1 : Int} {b2 : Int} {R : Ending → World → Prop} {w : World} (h : V_slices_insertionSortOrdered_uint32 data0 data0l data0c a1 b2 R w) : Calls P F.«slices_insertionSortOrdered_uint32» ⟨[.slice data0 data0l data0c, .int .i64 a1, .int .i64 b2]⟩ w R :=
  calls_of_vc tabOk bdOk mixed (fn := Tryz.f156) (c := bodyOf Tryz.f156) (pl := plan_slices_insertionSortOrdered_uint32) Tryz.func156 (by kernel_rfl) (Nat.le_of_ble_eq_true (by kernel_rfl)) (by kernel_rfl)
    (Eq.mp (show V_slices_insertionSortOrdered_uint32 data0 data0l data0c a1 b2 R w = vcFun P Tb Bd plan_slices_insertionSortOrdered_uint32 (raw Tryz.f156.ntmps) Tryz.f156.results.toList (bodyOf Tryz.f156) [.slice data0 data0l data0c, .int .i64 a1, .int .i64 b2] R w by kernel_rfl) h)

def V_slices_heapSortOrdered_uint32 (data0 : Option Addr) (data0l data0c : Nat) (a1 : Int) (b2 : Int) (R : Ending → World → Prop) (w : World) : Prop :=
 (2 : Int) ≠ 0 ∧ ∃ (I4 : Tup [(9, (.int .i64))] → World → Prop) (μ4 : Tup [(9, (.int .i64))] → World → Nat), I4 ((IntKind.wrap .i64 (Int.tdiv (IntKind.wrap .i64 ((IntKind.wrap .i64 (b2 - a1)) - 1)) 2)), ()) w ∧
 ∀ (junk4 : St) (n9 : Int) (wL4 : World), I4 (n9, ()) wL4 →
 bcase (decide (n9 ≥ 0)) (
  Calls P F.«slices_siftDownOrdered_uint32» ⟨[.slice data0 data0l data0c, .int .i64 n9, .int .i64 (IntKind.wrap .i64 (b2 - a1)), .int .i64 a1]⟩ wL4 fun e26 w26 => e26 = .returned (.tuple ⟨[]⟩) ∧
  I4 ((IntKind.wrap .i64 (n9 - 1)), ()) w26 ∧ μ4 ((IntKind.wrap .i64 (n9 - 1)), ()) w26 < μ4 (n9, ()) wL4)
 (∃ (I8 : Tup [(10, (.int .i64))] → World → Prop) (μ8 : Tup [(10, (.int .i64))] → World → Nat), I8 ((IntKind.wrap .i64 ((IntKind.wrap .i64 (b2 - a1)) - 1)), ()) wL4 ∧
  ∀ (junk8 : St) (n10 : Int) (wL8 : World), I8 (n10, ()) wL8 →
  bcase (decide (n10 ≥ 0)) (
   (0 ≤ (IntKind.wrap .i64 (a1 + n10)) ∧ (IntKind.wrap .i64 (a1 + n10)) < (data0l : Int)) ∧
   ptrW data0 fun a43 =>
   ∃ n44 : Int, wL8.cell? (a43.add ((IntKind.wrap .i64 (a1 + n10)).toNat * 1)) = some (.int .u32 n44) ∧
   (0 ≤ a1 ∧ a1 < (data0l : Int)) ∧
   ptrW data0 fun a47 =>
   ∃ n48 : Int, wL8.cell? (a47.add (a1.toNat * 1)) = some (.int .u32 n48) ∧
   (0 ≤ a1 ∧ a1 < (data0l : Int)) ∧
   ptrW data0 fun a49 =>
   ∀ wd10, Drew wL8 wd10 →
   (∃ old, wd10.cell? ((a49.add (a1.toNat * 1)).add 0) = some old) ∧ wd10.frozen? ((a49.add (a1.toNat * 1)).add 0) = false ∧
   letW (wd10.setCell ((a49.add (a1.toNat * 1)).add 0) (.int .u32 n44)) fun u0 =>
   (0 ≤ (IntKind.wrap .i64 (a1 + n10)) ∧ (IntKind.wrap .i64 (a1 + n10)) < (data0l : Int)) ∧
   ptrW data0 fun a50 =>
   (∃ old, u0.cell? ((a50.add ((IntKind.wrap .i64 (a1 + n10)).toNat * 1)).add 0) = some old) ∧ u0.frozen? ((a50.add ((IntKind.wrap .i64 (a1 + n10)).toNat * 1)).add 0) = false ∧
   letW (u0.setCell ((a50.add ((IntKind.wrap .i64 (a1 + n10)).toNat * 1)).add 0) (.int .u32 n48)) fun u0_1 =>
   Calls P F.«slices_siftDownOrdered_uint32» ⟨[.slice data0 data0l data0c, .int .i64 0, .int .i64 n10, .int .i64 a1]⟩ u0_1 fun e55 w55 => e55 = .returned (.tuple ⟨[]⟩) ∧
   I8 ((IntKind.wrap .i64 (n10 - 1)), ()) w55 ∧ μ8 ((IntKind.wrap .i64 (n10 - 1)), ()) w55 < μ8 (n10, ()) wL8)
  (R (.returned (.tuple ⟨[]⟩)) wL8))
def plan_slices_heapSortOrdered_uint32 : Plan := { loops := fun i => match i with | 64 => ([(9, (.int .i64))], [9, 18, 19, 20, 21, 22, 23, 24, 25, 26]) | 128 => ([(10, (.int .i64))], [10, 29, 30, 31, 32, 33, 34, 35, 36, 37, 38, 39, 40, 41, 42, 43, 44, 45, 46, 47, 48, 49, 50, 51, 52, 53, 54, 55]) | _ => ([], []), cuts := fun i => match i with | _ => none, head := fun i => match i with | 10 => some ([2, 3, 4, 5], [0, 1, 6, 7, 8, 9, 10, 11, 12, 13, 14, 15, 16], [17, 18, 19]) | _ => none, rng := fun i => match i with | _ => [] }
theorem ok_slices_heapSortOrdered_uint32 {data0 : Option Addr} {data0l data0c : Nat} {a1 : Int} {b2 : Int} {R : Ending → World → Prop} {w : World} (h : V_slices_heapSortOrdered_uint32 data0 data0l data0c a1 b2 R w) : Calls P F.«slices_heapSortOrdered_uint32» ⟨[.slice data0 data0l data0c, .int .i64 a1, .int .i64 b2]⟩ w R :=
  calls_of_vc tabOk bdOk mixed (fn := Tryz.f157) (c := bodyOf Tryz.f157) (pl := plan_slices_heapSortOrdered_uint32) Tryz.func157 (by kernel_rfl) (Nat.le_of_ble_eq_true (by kernel_rfl)) (by kernel_rfl)
    (Eq.mp (show V_slices_heapSortOrdered_uint32 data0 data0l data0c a1 b2 R w = vcFun P Tb Bd plan_slices_heapSortOrdered_uint32 (raw Tryz.f157.ntmps) Tryz.f157.results.toList (bodyOf Tryz.f157) [.slice data0 data0l data0c, .int .i64 a1, .int .i64 b2] R w by kernel_rfl) h)

def V_slices_breakPatternsOrdered_uint32 (data0 : Option Addr) (data0l data0c : Nat) (a1 : Int) (b2 : Int) (R : Ending → World → Prop) (w : World) : Prop :=
 bcase (decide ((IntKind.wrap .i64 (b2 - a1)) ≥ 8)) (
  letW (w.alloc (.cells ⟨[(.int .u64 0)]⟩ T.«slices_xorshift»)) fun u0 =>
  (∃ old, u0.cell? ((⟨w.heap.size, 0, none⟩ : Addr).add 0) = some old) ∧ u0.frozen? ((⟨w.heap.size, 0, none⟩ : Addr).add 0) = false ∧
  letW (u0.setCell ((⟨w.heap.size, 0, none⟩ : Addr).add 0) (.int .u64 (IntKind.wrap .u64 (IntKind.wrap .i64 (b2 - a1))))) fun u0_1 =>
  Calls P F.«slices_nextPowerOfTwo» ⟨[.int .i64 (IntKind.wrap .i64 (b2 - a1))]⟩ u0_1 fun e19 w19 => ∃ n19 : Int, e19 = .returned (.int .u64 n19) ∧
  (4 : Int) ≠ 0 ∧ ∃ (I5 : Tup [(9, (.int .i64))] → World → Prop) (μ5 : Tup [(9, (.int .i64))] → World → Nat), I5 ((IntKind.wrap .i64 ((IntKind.wrap .i64 (a1 + (IntKind.wrap .i64 ((IntKind.wrap .i64 (Int.tdiv (IntKind.wrap .i64 (b2 - a1)) 4)) * 2)))) - 1)), ()) w19 ∧
  ∀ (junk5 : St) (n9 : Int) (wL5 : World), I5 (n9, ()) wL5 →
  (4 : Int) ≠ 0 ∧ bcase (decide (n9 ≤ (IntKind.wrap .i64 ((IntKind.wrap .i64 (a1 + (IntKind.wrap .i64 ((IntKind.wrap .i64 (Int.tdiv (IntKind.wrap .i64 (b2 - a1)) 4)) * 2)))) + 1)))) (
   Calls P F.«slices_xorshift_Next» ⟨[.pointer (some ⟨w.heap.size, 0, none⟩)]⟩ wL5 fun e36 w36 => ∃ n36 : Int, e36 = .returned (.int .u64 n36) ∧
   ∃ J10 : Tup [(10, (.int .i64))] → World → Prop, (bcase (decide ((IntKind.wrap .i64 (bits .and .u64 n36 (IntKind.wrap .u64 (n19 - 1)))) ≥ (IntKind.wrap .i64 (b2 - a1)))) (
     J10 ((IntKind.wrap .i64 ((IntKind.wrap .i64 (bits .and .u64 n36 (IntKind.wrap .u64 (n19 - 1)))) - (IntKind.wrap .i64 (b2 - a1)))), ()) w36)
    (J10 ((IntKind.wrap .i64 (bits .and .u64 n36 (IntKind.wrap .u64 (n19 - 1)))), ()) w36)) ∧
   ∀ (junk10 : St) (n10 : Int) (wJ10 : World), J10 (n10, ()) wJ10 →
   (0 ≤ (IntKind.wrap .i64 (a1 + n10)) ∧ (IntKind.wrap .i64 (a1 + n10)) < (data0l : Int)) ∧
   ptrW data0 fun a57 =>
   ∃ n58 : Int, wJ10.cell? (a57.add ((IntKind.wrap .i64 (a1 + n10)).toNat * 1)) = some (.int .u32 n58) ∧
   (0 ≤ n9 ∧ n9 < (data0l : Int)) ∧
   ptrW data0 fun a61 =>
   ∃ n62 : Int, wJ10.cell? (a61.add (n9.toNat * 1)) = some (.int .u32 n62) ∧
   (0 ≤ n9 ∧ n9 < (data0l : Int)) ∧
   ptrW data0 fun a63 =>
   ∀ wd10, Drew wJ10 wd10 →
   (∃ old, wd10.cell? ((a63.add (n9.toNat * 1)).add 0) = some old) ∧ wd10.frozen? ((a63.add (n9.toNat * 1)).add 0) = false ∧
   letW (wd10.setCell ((a63.add (n9.toNat * 1)).add 0) (.int .u32 n58)) fun u0_2 =>
   (0 ≤ (IntKind.wrap .i64 (a1 + n10)) ∧ (IntKind.wrap .i64 (a1 + n10)) < (data0l : Int)) ∧
   ptrW data0 fun a64 =>
   (∃ old, u0_2.cell? ((a64.add ((IntKind.wrap .i64 (a1 + n10)).toNat * 1)).add 0) = some old) ∧ u0_2.frozen? ((a64.add ((IntKind.wrap .i64 (a1 + n10)).toNat * 1)).add 0) = false ∧
   letW (u0_2.setCell ((a64.add ((IntKind.wrap .i64 (a1 + n10)).toNat * 1)).add 0) (.int .u32 n62)) fun u0_3 =>
   I5 ((IntKind.wrap .i64 (n9 + 1)), ()) u0_3 ∧ μ5 ((IntKind.wrap .i64 (n9 + 1)), ()) u0_3 < μ5 (n9, ()) wL5)
  (R (.returned (.tuple ⟨[]⟩)) wL5))
 (R (.returned (.tuple ⟨[]⟩)) w)
def plan_slices_breakPatternsOrdered_uint32 : Plan := { loops := fun i => match i with | 80 => ([(9, (.int .i64))], [9, 10, 26, 27, 28, 29, 30, 31, 32, 33, 34, 35, 36, 37, 38, 39, 40, 41, 42, 43, 44, 45, 46, 47, 48, 49, 50, 51, 52, 53, 54, 55, 56, 57, 58, 59, 60, 61, 62, 63, 64]) | _ => ([], []), cuts := fun i => match i with | 10 => some ([(10, (.int .i64))], [10, 41, 42, 43, 44, 45, 46]) | _ => none, head := fun i => match i with | 10 => some ([2, 3, 4, 5], [0, 1, 6, 7, 8, 9, 10, 11, 12, 13, 14, 15, 16], [17, 18, 19]) | _ => none, rng := fun i => match i with | _ => [] }
theorem ok_slices_breakPatternsOrdered_uint32 {data0 : Option Addr} {data0l data0c : Nat} {a1 : Int} {b2 : Int} {R : Ending → World → Prop} {w : World} (h : V_slices_breakPatternsOrdered_uint32 data0 data0l data0c a1 b2 R w) : Calls P F.«slices_breakPatternsOrdered_uint32» ⟨[.slice data0 data0l data0c, .int .i64 a1, .int .i64 b2]⟩ w R :=
  calls_of_vc tabOk bdOk mixed (fn := Tryz.f158) (c := bodyOf Tryz.f158) (pl := plan_slices_breakPatternsOrdered_uint32) Tryz.func158 (by kernel_rfl) (Nat.le_of_ble_eq_true (by kernel_rfl)) (by kernel_rfl)
    (Eq.mp (show V_slices_breakPatternsOrdered_uint32 data0 data0l data0c a1 b2 R w = vcFun P Tb Bd plan_slices_breakPatternsOrdered_uint32 (raw Tryz.f158.ntmps) Tryz.f158.results.toList (bodyOf Tryz.f158) [.slice data0 data0l data0c, .int .i64 a1, .int .i64 b2] R w by kernel_rfl) h)

def V_slices_choosePivotOrdered_uint32 (data0 : Option Addr) (data0l data0c : Nat) (a1 : Int) (b2 : Int) (R : Ending → World → Prop) (w : World) : Prop :=
 letW (w.alloc (.cells ⟨[(.int .i64 0)]⟩ T.«i64'»)) fun u0 =>
 (4 : Int) ≠ 0 ∧ (4 : Int) ≠ 0 ∧ (4 : Int) ≠ 0 ∧ ∃ J12 : Tup [(11, (.int .i64))] → World → Prop, (bcase (decide ((IntKind.wrap .i64 (b2 - a1)) ≥ 8)) (
   bcase (decide ((IntKind.wrap .i64 (b2 - a1)) ≥ 50)) (
    Calls P F.«slices_medianAdjacentOrdered_uint32» ⟨[.slice data0 data0l data0c, .int .i64 (IntKind.wrap .i64 (a1 + (IntKind.wrap .i64 ((IntKind.wrap .i64 (Int.tdiv (IntKind.wrap .i64 (b2 - a1)) 4)) * 1)))), .pointer (some ⟨w.heap.size, 0, none⟩)]⟩ u0 fun e37 w37 => ∃ n37 : Int, e37 = .returned (.int .i64 n37) ∧
    Calls P F.«slices_medianAdjacentOrdered_uint32» ⟨[.slice data0 data0l data0c, .int .i64 (IntKind.wrap .i64 (a1 + (IntKind.wrap .i64 ((IntKind.wrap .i64 (Int.tdiv (IntKind.wrap .i64 (b2 - a1)) 4)) * 2)))), .pointer (some ⟨w.heap.size, 0, none⟩)]⟩ w37 fun e40 w40 => ∃ n40 : Int, e40 = .returned (.int .i64 n40) ∧
    Calls P F.«slices_medianAdjacentOrdered_uint32» ⟨[.slice data0 data0l data0c, .int .i64 (IntKind.wrap .i64 (a1 + (IntKind.wrap .i64 ((IntKind.wrap .i64 (Int.tdiv (IntKind.wrap .i64 (b2 - a1)) 4)) * 3)))), .pointer (some ⟨w.heap.size, 0, none⟩)]⟩ w40 fun e43 w43 => ∃ n43 : Int, e43 = .returned (.int .i64 n43) ∧
    Calls P F.«slices_medianOrdered_uint32» ⟨[.slice data0 data0l data0c, .int .i64 n37, .int .i64 n40, .int .i64 n43, .pointer (some ⟨w.heap.size, 0, none⟩)]⟩ w43 fun e48 w48 => ∃ n48 : Int, e48 = .returned (.int .i64 n48) ∧
    J12 (n48, ()) w48)
   (Calls P F.«slices_medianOrdered_uint32» ⟨[.slice data0 data0l data0c, .int .i64 (IntKind.wrap .i64 (a1 + (IntKind.wrap .i64 ((IntKind.wrap .i64 (Int.tdiv (IntKind.wrap .i64 (b2 - a1)) 4)) * 1)))), .int .i64 (IntKind.wrap .i64 (a1 + (IntKind.wrap .i64 ((IntKind.wrap .i64 (Int.tdiv (IntKind.wrap .i64 (b2 - a1)) 4)) * 2)))), .int .i64 (IntKind.wrap .i64 (a1 + (IntKind.wrap .i64 ((IntKind.wrap .i64 (Int.tdiv (IntKind.wrap .i64 (b2 - a1)) 4)) * 3)))), .pointer (some ⟨w.heap.size, 0, none⟩)]⟩ u0 fun e48_1 w48_1 => ∃ n48_1 : Int, e48_1 = .returned (.int .i64 n48_1) ∧
    J12 (n48_1, ()) w48_1))
  (J12 ((IntKind.wrap .i64 (a1 + (IntKind.wrap .i64 ((IntKind.wrap .i64 (Int.tdiv (IntKind.wrap .i64 (b2 - a1)) 4)) * 2)))), ()) u0)) ∧
 ∀ (junk12 : St) (n11 : Int) (wJ12 : World), J12 (n11, ()) wJ12 →
 ∃ n49 : Int, wJ12.cell? ⟨w.heap.size, 0, none⟩ = some (.int .i64 n49) ∧
 bcase (n49 == 0) (
  R (.returned (.tuple ⟨[.int .i64 n11, .int .i64 1]⟩)) wJ12)
 (bcase (n49 == 12) (
   R (.returned (.tuple ⟨[.int .i64 n11, .int .i64 2]⟩)) wJ12)
  (R (.returned (.tuple ⟨[.int .i64 n11, .int .i64 0]⟩)) wJ12))
def plan_slices_choosePivotOrdered_uint32 : Plan := { loops := fun i => match i with | _ => ([], []), cuts := fun i => match i with | 12 => some ([(11, (.int .i64))], [10, 11, 12, 31, 32, 33, 34, 35, 36, 37, 38, 39, 40, 41, 42, 43, 44, 45, 46, 47, 48]) | _ => none, head := fun i => match i with | _ => none, rng := fun i => match i with | _ => [] }
theorem ok_slices_choosePivotOrdered_uint32 {data0 : Option Addr} {data0l data0c : Nat} {a1 : Int} {b2 : Int} {R : Ending → World → Prop} {w : World} (h : V_slices_choosePivotOrdered_uint32 data0 data0l data0c a1 b2 R w) : Calls P F.«slices_choosePivotOrdered_uint32» ⟨[.slice data0 data0l data0c, .int .i64 a1, .int .i64 b2]⟩ w R :=
  calls_of_vc tabOk bdOk mixed (fn := Tryz.f159) (c := bodyOf Tryz.f159) (pl := plan_slices_choosePivotOrdered_uint32) Tryz.func159 (by kernel_rfl) (Nat.le_of_ble_eq_true (by kernel_rfl)) (by kernel_rfl)
    (Eq.mp (show V_slices_choosePivotOrdered_uint32 data0 data0l data0c a1 b2 R w = vcFun P Tb Bd plan_slices_choosePivotOrdered_uint32 (raw Tryz.f159.ntmps) Tryz.f159.results.toList (bodyOf Tryz.f159) [.slice data0 data0l data0c, .int .i64 a1, .int .i64 b2] R w by kernel_rfl) h)

def V_slices_reverseRangeOrdered_uint32 (data0 : Option Addr) (data0l data0c : Nat) (a1 : Int) (b2 : Int) (R : Ending → World → Prop) (w : World) : Prop :=
 ∃ (I2 : Tup [(6, (.int .i64)), (7, (.int .i64))] → World → Prop) (μ2 : Tup [(6, (.int .i64)), (7, (.int .i64))] → World → Nat), I2 (a1, (IntKind.wrap .i64 (b2 - 1)), ()) w ∧
 ∀ (junk2 : St) (n6 : Int) (n7 : Int) (wL2 : World), I2 (n6, n7, ()) wL2 →
 bcase (decide (n6 < n7)) (
  (0 ≤ n7 ∧ n7 < (data0l : Int)) ∧
  ptrW data0 fun a20 =>
  ∃ n21 : Int, wL2.cell? (a20.add (n7.toNat * 1)) = some (.int .u32 n21) ∧
  (0 ≤ n6 ∧ n6 < (data0l : Int)) ∧
  ptrW data0 fun a24 =>
  ∃ n25 : Int, wL2.cell? (a24.add (n6.toNat * 1)) = some (.int .u32 n25) ∧
  (0 ≤ n6 ∧ n6 < (data0l : Int)) ∧
  ptrW data0 fun a26 =>
  ∀ wd3, Drew wL2 wd3 →
  (∃ old, wd3.cell? ((a26.add (n6.toNat * 1)).add 0) = some old) ∧ wd3.frozen? ((a26.add (n6.toNat * 1)).add 0) = false ∧
  letW (wd3.setCell ((a26.add (n6.toNat * 1)).add 0) (.int .u32 n21)) fun u0 =>
  (0 ≤ n7 ∧ n7 < (data0l : Int)) ∧
  ptrW data0 fun a27 =>
  (∃ old, u0.cell? ((a27.add (n7.toNat * 1)).add 0) = some old) ∧ u0.frozen? ((a27.add (n7.toNat * 1)).add 0) = false ∧
  letW (u0.setCell ((a27.add (n7.toNat * 1)).add 0) (.int .u32 n25)) fun u0_1 =>
  I2 ((IntKind.wrap .i64 (n6 + 1)), (IntKind.wrap .i64 (n7 - 1)), ()) u0_1 ∧ μ2 ((IntKind.wrap .i64 (n6 + 1)), (IntKind.wrap .i64 (n7 - 1)), ()) u0_1 < μ2 (n6, n7, ()) wL2)
 (R (.returned (.tuple ⟨[]⟩)) wL2)
def plan_slices_reverseRangeOrdered_uint32 : Plan := { loops := fun i => match i with | 32 => ([(6, (.int .i64)), (7, (.int .i64))], [6, 7, 11, 12, 13, 14, 15, 16, 17, 18, 19, 20, 21, 22, 23, 24, 25, 26, 27, 28, 29, 30, 31]) | _ => ([], []), cuts := fun i => match i with | _ => none, head := fun i => match i with | 3 => some ([2, 3], [0, 1, 4, 5, 6, 7, 8, 9, 10, 11, 12], [13, 14, 15]) | _ => none, rng := fun i => match i with | _ => [] }
theorem ok_slices_reverseRangeOrdered_uint32 {data0 : Option Addr} {data0l data0c : Nat} {a1 : Int} {b2 : Int} {R : Ending → World → Prop} {w : World} (h : V_slices_reverseRangeOrdered_uint32 data0 data0l data0c a1 b2 R w) : Calls P F.«slices_reverseRangeOrdered_uint32» ⟨[.slice data0 data0l data0c, .int .i64 a1, .int .i64 b2]⟩ w R :=
  calls_of_vc tabOk bdOk mixed (fn := Tryz.f160) (c := bodyOf Tryz.f160) (pl := plan_slices_reverseRangeOrdered_uint32) Tryz.func160 (by kernel_rfl) (Nat.le_of_ble_eq_true (by kernel_rfl)) (by kernel_rfl)
    (Eq.mp (show V_slices_reverseRangeOrdered_uint32 data0 data0l data0c a1 b2 R w = vcFun P Tb Bd plan_slices_reverseRangeOrdered_uint32 (raw Tryz.f160.ntmps) Tryz.f160.results.toList (bodyOf Tryz.f160) [.slice data0 data0l data0c, .int .i64 a1, .int .i64 b2] R w by kernel_rfl) h)

def V_slices_partialInsertionSortOrdered_uint32 (data0 : Option Addr) (data0l data0c : Nat) (a1 : Int) (b2 : Int) (R : Ending → World → Prop) (w : World) : Prop :=
 ∃ (I3 : Tup [(7, (.int .i64)), (8, (.int .i64))] → World → Prop) (μ3 : Tup [(7, (.int .i64)), (8, (.int .i64))] → World → Nat), I3 ((IntKind.wrap .i64 (a1 + 1)), 0, ()) w ∧
 ∀ (junk3 : St) (n7 : Int) (n8 : Int) (wL3 : World), I3 (n7, n8, ()) wL3 →
 bcase (decide (n8 < 5)) (
  ∃ J7 : Tup [(7, (.int .i64))] → World → Prop, (∃ (I5 : Tup [(7, (.int .i64))] → World → Prop) (μ5 : Tup [(7, (.int .i64))] → World → Nat), I5 (n7, ()) wL3 ∧
   ∀ (junk5 : St) (n7_1 : Int) (wL5 : World), I5 (n7_1, ()) wL5 →
   bcase (decide (n7_1 < b2)) (
    (0 ≤ n7_1 ∧ n7_1 < (data0l : Int)) ∧
    ptrW data0 fun a23 =>
    ∃ n24 : Int, wL5.cell? (a23.add (n7_1.toNat * 1)) = some (.int .u32 n24) ∧
    (0 ≤ (IntKind.wrap .i64 (n7_1 - 1)) ∧ (IntKind.wrap .i64 (n7_1 - 1)) < (data0l : Int)) ∧
    ptrW data0 fun a28 =>
    ∃ n29 : Int, wL5.cell? (a28.add ((IntKind.wrap .i64 (n7_1 - 1)).toNat * 1)) = some (.int .u32 n29) ∧
    ∀ wd5, Drew wL5 wd5 →
    Calls P F.«cmp_Less_uint32» ⟨[.int .u32 n24, .int .u32 n29]⟩ wd5 fun e30 w30 => ∃ b30 : Bool, e30 = .returned (.bool b30) ∧
    bcase (!b30) (
     I5 ((IntKind.wrap .i64 (n7_1 + 1)), ()) w30 ∧ μ5 ((IntKind.wrap .i64 (n7_1 + 1)), ()) w30 < μ5 (n7_1, ()) wL5)
    (J7 (n7_1, ()) w30))
   (∀ wd5, Drew wL5 wd5 →
    J7 (n7_1, ()) wd5)) ∧
  ∀ (junk7 : St) (n7_2 : Int) (wJ7 : World), J7 (n7_2, ()) wJ7 →
  bcase (n7_2 == b2) (
   R (.returned (.bool true)) wJ7)
  (bcase (decide ((IntKind.wrap .i64 (b2 - a1)) < 50)) (
    R (.returned (.bool false)) wJ7)
   ((0 ≤ (IntKind.wrap .i64 (n7_2 - 1)) ∧ (IntKind.wrap .i64 (n7_2 - 1)) < (data0l : Int)) ∧
    ptrW data0 fun a50 =>
    ∃ n51 : Int, wJ7.cell? (a50.add ((IntKind.wrap .i64 (n7_2 - 1)).toNat * 1)) = some (.int .u32 n51) ∧
    (0 ≤ n7_2 ∧ n7_2 < (data0l : Int)) ∧
    ptrW data0 fun a54 =>
    ∃ n55 : Int, wJ7.cell? (a54.add (n7_2.toNat * 1)) = some (.int .u32 n55) ∧
    (0 ≤ n7_2 ∧ n7_2 < (data0l : Int)) ∧
    ptrW data0 fun a56 =>
    ∀ wd11, Drew wJ7 wd11 →
    (∃ old, wd11.cell? ((a56.add (n7_2.toNat * 1)).add 0) = some old) ∧ wd11.frozen? ((a56.add (n7_2.toNat * 1)).add 0) = false ∧
    letW (wd11.setCell ((a56.add (n7_2.toNat * 1)).add 0) (.int .u32 n51)) fun u0 =>
    (0 ≤ (IntKind.wrap .i64 (n7_2 - 1)) ∧ (IntKind.wrap .i64 (n7_2 - 1)) < (data0l : Int)) ∧
    ptrW data0 fun a57 =>
    (∃ old, u0.cell? ((a57.add ((IntKind.wrap .i64 (n7_2 - 1)).toNat * 1)).add 0) = some old) ∧ u0.frozen? ((a57.add ((IntKind.wrap .i64 (n7_2 - 1)).toNat * 1)).add 0) = false ∧
    letW (u0.setCell ((a57.add ((IntKind.wrap .i64 (n7_2 - 1)).toNat * 1)).add 0) (.int .u32 n55)) fun u0_1 =>
    ∃ J18 : Tup [] → World → Prop, (bcase (decide ((IntKind.wrap .i64 (n7_2 - a1)) ≥ 2)) (
      ∃ (I14 : Tup [(9, (.int .i64))] → World → Prop) (μ14 : Tup [(9, (.int .i64))] → World → Nat), I14 ((IntKind.wrap .i64 (n7_2 - 1)), ()) u0_1 ∧
      ∀ (junk14 : St) (n9 : Int) (wL14 : World), I14 (n9, ()) wL14 →
      bcase (decide (n9 ≥ 1)) (
       (0 ≤ n9 ∧ n9 < (data0l : Int)) ∧
       ptrW data0 fun a70 =>
       ∃ n71 : Int, wL14.cell? (a70.add (n9.toNat * 1)) = some (.int .u32 n71) ∧
       (0 ≤ (IntKind.wrap .i64 (n9 - 1)) ∧ (IntKind.wrap .i64 (n9 - 1)) < (data0l : Int)) ∧
       ptrW data0 fun a75 =>
       ∃ n76 : Int, wL14.cell? (a75.add ((IntKind.wrap .i64 (n9 - 1)).toNat * 1)) = some (.int .u32 n76) ∧
       ∀ wd16, Drew wL14 wd16 →
       Calls P F.«cmp_Less_uint32» ⟨[.int .u32 n71, .int .u32 n76]⟩ wd16 fun e77 w77 => ∃ b77 : Bool, e77 = .returned (.bool b77) ∧
       bcase (!b77) (
        J18 () w77)
       ((0 ≤ (IntKind.wrap .i64 (n9 - 1)) ∧ (IntKind.wrap .i64 (n9 - 1)) < (data0l : Int)) ∧
        ptrW data0 fun a87 =>
        ∃ n88 : Int, w77.cell? (a87.add ((IntKind.wrap .i64 (n9 - 1)).toNat * 1)) = some (.int .u32 n88) ∧
        (0 ≤ n9 ∧ n9 < (data0l : Int)) ∧
        ptrW data0 fun a91 =>
        ∃ n92 : Int, w77.cell? (a91.add (n9.toNat * 1)) = some (.int .u32 n92) ∧
        (0 ≤ n9 ∧ n9 < (data0l : Int)) ∧
        ptrW data0 fun a93 =>
        ∀ wd17, Drew w77 wd17 →
        (∃ old, wd17.cell? ((a93.add (n9.toNat * 1)).add 0) = some old) ∧ wd17.frozen? ((a93.add (n9.toNat * 1)).add 0) = false ∧
        letW (wd17.setCell ((a93.add (n9.toNat * 1)).add 0) (.int .u32 n88)) fun u0_2 =>
        (0 ≤ (IntKind.wrap .i64 (n9 - 1)) ∧ (IntKind.wrap .i64 (n9 - 1)) < (data0l : Int)) ∧
        ptrW data0 fun a94 =>
        (∃ old, u0_2.cell? ((a94.add ((IntKind.wrap .i64 (n9 - 1)).toNat * 1)).add 0) = some old) ∧ u0_2.frozen? ((a94.add ((IntKind.wrap .i64 (n9 - 1)).toNat * 1)).add 0) = false ∧
        letW (u0_2.setCell ((a94.add ((IntKind.wrap .i64 (n9 - 1)).toNat * 1)).add 0) (.int .u32 n92)) fun u0_3 =>
        I14 ((IntKind.wrap .i64 (n9 - 1)), ()) u0_3 ∧ μ14 ((IntKind.wrap .i64 (n9 - 1)), ()) u0_3 < μ14 (n9, ()) wL14))
      (J18 () wL14))
     (J18 () u0_1)) ∧
    ∀ (junk18 : St) (wJ18 : World), J18 () wJ18 →
    bcase (decide ((IntKind.wrap .i64 (b2 - n7_2)) ≥ 2)) (
     ∃ (I20 : Tup [(10, (.int .i64))] → World → Prop) (μ20 : Tup [(10, (.int .i64))] → World → Nat), I20 ((IntKind.wrap .i64 (n7_2 + 1)), ()) wJ18 ∧
     ∀ (junk20 : St) (n10 : Int) (wL20 : World), I20 (n10, ()) wL20 →
     bcase (decide (n10 < b2)) (
      (0 ≤ n10 ∧ n10 < (data0l : Int)) ∧
      ptrW data0 fun a108 =>
      ∃ n109 : Int, wL20.cell? (a108.add (n10.toNat * 1)) = some (.int .u32 n109) ∧
      (0 ≤ (IntKind.wrap .i64 (n10 - 1)) ∧ (IntKind.wrap .i64 (n10 - 1)) < (data0l : Int)) ∧
      ptrW data0 fun a113 =>
      ∃ n114 : Int, wL20.cell? (a113.add ((IntKind.wrap .i64 (n10 - 1)).toNat * 1)) = some (.int .u32 n114) ∧
      ∀ wd22, Drew wL20 wd22 →
      Calls P F.«cmp_Less_uint32» ⟨[.int .u32 n109, .int .u32 n114]⟩ wd22 fun e115 w115 => ∃ b115 : Bool, e115 = .returned (.bool b115) ∧
      bcase (!b115) (
       I3 (n7_2, (IntKind.wrap .i64 (n8 + 1)), ()) w115 ∧ μ3 (n7_2, (IntKind.wrap .i64 (n8 + 1)), ()) w115 < μ3 (n7, n8, ()) wL3)
      ((0 ≤ (IntKind.wrap .i64 (n10 - 1)) ∧ (IntKind.wrap .i64 (n10 - 1)) < (data0l : Int)) ∧
       ptrW data0 fun a125 =>
       ∃ n126 : Int, w115.cell? (a125.add ((IntKind.wrap .i64 (n10 - 1)).toNat * 1)) = some (.int .u32 n126) ∧
       (0 ≤ n10 ∧ n10 < (data0l : Int)) ∧
       ptrW data0 fun a129 =>
       ∃ n130 : Int, w115.cell? (a129.add (n10.toNat * 1)) = some (.int .u32 n130) ∧
       (0 ≤ n10 ∧ n10 < (data0l : Int)) ∧
       ptrW data0 fun a131 =>
       ∀ wd23, Drew w115 wd23 →
       (∃ old, wd23.cell? ((a131.add (n10.toNat * 1)).add 0) = some old) ∧ wd23.frozen? ((a131.add (n10.toNat * 1)).add 0) = false ∧
       letW (wd23.setCell ((a131.add (n10.toNat * 1)).add 0) (.int .u32 n126)) fun u0_4 =>
       (0 ≤ (IntKind.wrap .i64 (n10 - 1)) ∧ (IntKind.wrap .i64 (n10 - 1)) < (data0l : Int)) ∧
       ptrW data0 fun a132 =>
       (∃ old, u0_4.cell? ((a132.add ((IntKind.wrap .i64 (n10 - 1)).toNat * 1)).add 0) = some old) ∧ u0_4.frozen? ((a132.add ((IntKind.wrap .i64 (n10 - 1)).toNat * 1)).add 0) = false ∧
       letW (u0_4.setCell ((a132.add ((IntKind.wrap .i64 (n10 - 1)).toNat * 1)).add 0) (.int .u32 n130)) fun u0_5 =>
       I20 ((IntKind.wrap .i64 (n10 + 1)), ()) u0_5 ∧ μ20 ((IntKind.wrap .i64 (n10 + 1)), ()) u0_5 < μ20 (n10, ()) wL20))
     (I3 (n7_2, (IntKind.wrap .i64 (n8 + 1)), ()) wL20 ∧ μ3 (n7_2, (IntKind.wrap .i64 (n8 + 1)), ()) wL20 < μ3 (n7, n8, ()) wL3))
    (I3 (n7_2, (IntKind.wrap .i64 (n8 + 1)), ()) wJ18 ∧ μ3 (n7_2, (IntKind.wrap .i64 (n8 + 1)), ()) wJ18 < μ3 (n7, n8, ()) wL3))))
 (R (.returned (.bool false)) wL3)
def plan_slices_partialInsertionSortOrdered_uint32 : Plan := { loops := fun i => match i with | 48 => ([(7, (.int .i64)), (8, (.int .i64))], [6, 7, 8, 9, 10, 13, 14, 15, 16, 17, 18, 19, 20, 21, 22, 23, 24, 25, 26, 27, 28, 29, 30, 31, 32, 33, 34, 35, 36, 37, 38, 39, 40, 41, 42, 43, 44, 45, 46, 47, 48, 49, 50, 51, 52, 53, 54, 55, 56, 57, 58, 59, 60, 61, 62, 63, 64, 65, 66, 67, 68, 69, 70, 71, 72, 73, 74, 75, 76, 77, 78, 79, 80, 81, 82, 83, 84, 85, 86, 87, 88, 89, 90, 91, 92, 93, 94, 95, 96, 97, 98, 99, 100, 101, 102, 103, 104, 105, 106, 107, 108, 109, 110, 111, 112, 113, 114, 115, 116, 117, 118, 119, 120, 121, 122, 123, 124, 125, 126, 127, 128, 129, 130, 131, 132]) | 80 => ([(7, (.int .i64))], [7, 17, 18, 19, 20, 21, 22, 23, 24, 25, 26, 27, 28, 29, 30, 31, 32, 33, 34]) | 224 => ([(9, (.int .i64))], [9, 64, 65, 66, 67, 68, 69, 70, 71, 72, 73, 74, 75, 76, 77, 78, 79, 80, 81, 82, 83, 84, 85, 86, 87, 88, 89, 90, 91, 92, 93, 94]) | 320 => ([(10, (.int .i64))], [10, 101, 102, 103, 104, 105, 106, 107, 108, 109, 110, 111, 112, 113, 114, 115, 116, 117, 118, 119, 120, 121, 122, 123, 124, 125, 126, 127, 128, 129, 130, 131, 132]) | _ => ([], []), cuts := fun i => match i with | 7 => some ([(7, (.int .i64))], [7, 17, 18, 19, 20, 21, 22, 23, 24, 25, 26, 27, 28, 29, 30, 31, 32, 33, 34]) | 18 => some ([], [9, 58, 59, 60, 61, 62, 63, 64, 65, 66, 67, 68, 69, 70, 71, 72, 73, 74, 75, 76, 77, 78, 79, 80, 81, 82, 83, 84, 85, 86, 87, 88, 89, 90, 91, 92, 93, 94]) | _ => none, head := fun i => match i with | 5 => some ([], [0, 1, 2, 3, 4, 5, 6, 7, 8, 9, 10, 11, 12], [13, 14, 15]) | 11 => some ([2, 3, 4], [0, 1, 5, 6, 7, 8, 9, 10, 11, 12, 13, 14], [15, 16, 17]) | 16 => some ([], [0, 1, 2, 3, 4, 5, 6, 7, 8], [9, 10]) | 17 => some ([2, 3, 4], [0, 1, 5, 6, 7, 8, 9, 10, 11, 12, 13, 14], [15, 16, 17]) | 22 => some ([], [0, 1, 2, 3, 4, 5, 6, 7, 8], [9, 10]) | 23 => some ([2, 3, 4], [0, 1, 5, 6, 7, 8, 9, 10, 11, 12, 13, 14], [15, 16, 17]) | _ => none, rng := fun i => match i with | _ => [] }
theorem ok_slices_partialInsertionSortOrdered_uint32 {data0 : Option Addr} {data0l data0c : Nat} {a1 : Int} {b2 : Int} {R : Ending → World → Prop} {w : World} (h : V_slices_partialInsertionSortOrdered_uint32 data0 data0l data0c a1 b2 R w) : Calls P F.«slices_partialInsertionSortOrdered_uint32» ⟨[.slice data0 data0l data0c, .int .i64 a1, .int .i64 b2]⟩ w R :=
  calls_of_vc tabOk bdOk mixed (fn := Tryz.f161) (c := bodyOf Tryz.f161) (pl := plan_slices_partialInsertionSortOrdered_uint32) Tryz.func161 (by kernel_rfl) (Nat.le_of_ble_eq_true (by kernel_rfl)) (by kernel_rfl)
    (Eq.mp (show V_slices_partialInsertionSortOrdered_uint32 data0 data0l data0c a1 b2 R w = vcFun P Tb Bd plan_slices_partialInsertionSortOrdered_uint32 (raw Tryz.f161.ntmps) Tryz.f161.results.toList (bodyOf Tryz.f161) [.slice data0 data0l data0c, .int .i64 a1, .int .i64 b2] R w by kernel_rfl) h)

def V_cmp_Less_uint32 (x0 : Int) (y1 : Int) (R : Ending → World → Prop) (w : World) : Prop :=
 Calls P F.«cmp_isNaN_uint32» ⟨[.int .u32 x0]⟩ w fun e6 w6 => ∃ b6 : Bool, e6 = .returned (.bool b6) ∧
 bcase b6 (
  Calls P F.«cmp_isNaN_uint32» ⟨[.int .u32 y1]⟩ w6 fun e9 w9 => ∃ b9 : Bool, e9 = .returned (.bool b9) ∧
  bcase (!b9) (
   R (.returned (.bool true)) w9)
  (R (.returned (.bool (decide (x0 < y1)))) w9))
 (R (.returned (.bool (decide (x0 < y1)))) w6)
def plan_cmp_Less_uint32 : Plan := { loops := fun i => match i with | _ => ([], []), cuts := fun i => match i with | _ => none, head := fun i => match i with | _ => none, rng := fun i => match i with | _ => [] }
theorem ok_cmp_Less_uint32 {x0 : Int} {y1 : Int} {R : Ending → World → Prop} {w : World} (h : V_cmp_Less_uint32 x0 y1 R w) : Calls P F.«cmp_Less_uint32» ⟨[.int .u32 x0, .int .u32 y1]⟩ w R :=
  calls_of_vc tabOk bdOk mixed (fn := Tryz.f162) (c := bodyOf Tryz.f162) (pl := plan_cmp_Less_uint32) Tryz.func162 (by kernel_rfl) (Nat.le_of_ble_eq_true (by kernel_rfl)) (by kernel_rfl)
    (Eq.mp (show V_cmp_Less_uint32 x0 y1 R w = vcFun P Tb Bd plan_cmp_Less_uint32 (raw Tryz.f162.ntmps) Tryz.f162.results.toList (bodyOf Tryz.f162) [.int .u32 x0, .int .u32 y1] R w by kernel_rfl) h)

def V_slices_partitionEqualOrdered_uint32 (data0 : Option Addr) (data0l data0c : Nat) (a1 : Int) (b2 : Int) (pivot3 : Int) (R : Ending → World → Prop) (w : World) : Prop :=
 (0 ≤ pivot3 ∧ pivot3 < (data0l : Int)) ∧
 ptrW data0 fun a17 =>
 ∃ n18 : Int, w.cell? (a17.add (pivot3.toNat * 1)) = some (.int .u32 n18) ∧
 (0 ≤ a1 ∧ a1 < (data0l : Int)) ∧
 ptrW data0 fun a21 =>
 ∃ n22 : Int, w.cell? (a21.add (a1.toNat * 1)) = some (.int .u32 n22) ∧
 (0 ≤ a1 ∧ a1 < (data0l : Int)) ∧
 ptrW data0 fun a23 =>
 ∀ wd1, Drew w wd1 →
 (∃ old, wd1.cell? ((a23.add (a1.toNat * 1)).add 0) = some old) ∧ wd1.frozen? ((a23.add (a1.toNat * 1)).add 0) = false ∧
 letW (wd1.setCell ((a23.add (a1.toNat * 1)).add 0) (.int .u32 n18)) fun u0 =>
 (0 ≤ pivot3 ∧ pivot3 < (data0l : Int)) ∧
 ptrW data0 fun a24 =>
 (∃ old, u0.cell? ((a24.add (pivot3.toNat * 1)).add 0) = some old) ∧ u0.frozen? ((a24.add (pivot3.toNat * 1)).add 0) = false ∧
 letW (u0.setCell ((a24.add (pivot3.toNat * 1)).add 0) (.int .u32 n22)) fun u0_1 =>
 ∃ (I3 : Tup [(9, (.int .i64)), (10, (.int .i64))] → World → Prop) (μ3 : Tup [(9, (.int .i64)), (10, (.int .i64))] → World → Nat), I3 ((IntKind.wrap .i64 (a1 + 1)), (IntKind.wrap .i64 (b2 - 1)), ()) u0_1 ∧
 ∀ (junk3 : St) (n9 : Int) (n10 : Int) (wL3 : World), I3 (n9, n10, ()) wL3 →
 ∃ J5 : Tup [(9, (.int .i64))] → World → Prop, (∃ (I3_1 : Tup [(9, (.int .i64))] → World → Prop) (μ3_1 : Tup [(9, (.int .i64))] → World → Nat), I3_1 (n9, ()) wL3 ∧
  ∀ (junk3_1 : St) (n9_1 : Int) (wL3_1 : World), I3_1 (n9_1, ()) wL3_1 →
  bcase (decide (n9_1 ≤ n10)) (
   (0 ≤ a1 ∧ a1 < (data0l : Int)) ∧
   ptrW data0 fun a35 =>
   ∃ n36 : Int, wL3_1.cell? (a35.add (a1.toNat * 1)) = some (.int .u32 n36) ∧
   (0 ≤ n9_1 ∧ n9_1 < (data0l : Int)) ∧
   ptrW data0 fun a39 =>
   ∃ n40 : Int, wL3_1.cell? (a39.add (n9_1.toNat * 1)) = some (.int .u32 n40) ∧
   ∀ wd3, Drew wL3_1 wd3 →
   Calls P F.«cmp_Less_uint32» ⟨[.int .u32 n36, .int .u32 n40]⟩ wd3 fun e41 w41 => ∃ b41 : Bool, e41 = .returned (.bool b41) ∧
   bcase (!b41) (
    I3_1 ((IntKind.wrap .i64 (n9_1 + 1)), ()) w41 ∧ μ3_1 ((IntKind.wrap .i64 (n9_1 + 1)), ()) w41 < μ3_1 (n9_1, ()) wL3_1)
   (J5 (n9_1, ()) w41))
  (∀ wd3, Drew wL3_1 wd3 →
   J5 (n9_1, ()) wd3)) ∧
 ∀ (junk5 : St) (n9_2 : Int) (wJ5 : World), J5 (n9_2, ()) wJ5 →
 ∃ J7 : Tup [(10, (.int .i64))] → World → Prop, (∃ (I5 : Tup [(10, (.int .i64))] → World → Prop) (μ5 : Tup [(10, (.int .i64))] → World → Nat), I5 (n10, ()) wJ5 ∧
  ∀ (junk5_1 : St) (n10_1 : Int) (wL5 : World), I5 (n10_1, ()) wL5 →
  bcase (decide (n9_2 ≤ n10_1)) (
   (0 ≤ a1 ∧ a1 < (data0l : Int)) ∧
   ptrW data0 fun a52 =>
   ∃ n53 : Int, wL5.cell? (a52.add (a1.toNat * 1)) = some (.int .u32 n53) ∧
   (0 ≤ n10_1 ∧ n10_1 < (data0l : Int)) ∧
   ptrW data0 fun a56 =>
   ∃ n57 : Int, wL5.cell? (a56.add (n10_1.toNat * 1)) = some (.int .u32 n57) ∧
   ∀ wd5, Drew wL5 wd5 →
   Calls P F.«cmp_Less_uint32» ⟨[.int .u32 n53, .int .u32 n57]⟩ wd5 fun e58 w58 => ∃ b58 : Bool, e58 = .returned (.bool b58) ∧
   bcase b58 (
    I5 ((IntKind.wrap .i64 (n10_1 - 1)), ()) w58 ∧ μ5 ((IntKind.wrap .i64 (n10_1 - 1)), ()) w58 < μ5 (n10_1, ()) wL5)
   (J7 (n10_1, ()) w58))
  (∀ wd5, Drew wL5 wd5 →
   J7 (n10_1, ()) wd5)) ∧
 ∀ (junk7 : St) (n10_2 : Int) (wJ7 : World), J7 (n10_2, ()) wJ7 →
 bcase (decide (n9_2 > n10_2)) (
  R (.returned (.int .i64 n9_2)) wJ7)
 ((0 ≤ n10_2 ∧ n10_2 < (data0l : Int)) ∧
  ptrW data0 fun a71 =>
  ∃ n72 : Int, wJ7.cell? (a71.add (n10_2.toNat * 1)) = some (.int .u32 n72) ∧
  (0 ≤ n9_2 ∧ n9_2 < (data0l : Int)) ∧
  ptrW data0 fun a75 =>
  ∃ n76 : Int, wJ7.cell? (a75.add (n9_2.toNat * 1)) = some (.int .u32 n76) ∧
  (0 ≤ n9_2 ∧ n9_2 < (data0l : Int)) ∧
  ptrW data0 fun a77 =>
  ∀ wd8, Drew wJ7 wd8 →
  (∃ old, wd8.cell? ((a77.add (n9_2.toNat * 1)).add 0) = some old) ∧ wd8.frozen? ((a77.add (n9_2.toNat * 1)).add 0) = false ∧
  letW (wd8.setCell ((a77.add (n9_2.toNat * 1)).add 0) (.int .u32 n72)) fun u0_2 =>
  (0 ≤ n10_2 ∧ n10_2 < (data0l : Int)) ∧
  ptrW data0 fun a78 =>
  (∃ old, u0_2.cell? ((a78.add (n10_2.toNat * 1)).add 0) = some old) ∧ u0_2.frozen? ((a78.add (n10_2.toNat * 1)).add 0) = false ∧
  letW (u0_2.setCell ((a78.add (n10_2.toNat * 1)).add 0) (.int .u32 n76)) fun u0_3 =>
  I3 ((IntKind.wrap .i64 (n9_2 + 1)), (IntKind.wrap .i64 (n10_2 - 1)), ()) u0_3 ∧ μ3 ((IntKind.wrap .i64 (n9_2 + 1)), (IntKind.wrap .i64 (n10_2 - 1)), ()) u0_3 < μ3 (n9, n10, ()) wL3)
def plan_slices_partitionEqualOrdered_uint32 : Plan := { loops := fun i => match i with | 48 => ([(9, (.int .i64))], [9, 29, 30, 31, 32, 33, 34, 35, 36, 37, 38, 39, 40, 41, 42, 43, 44, 45]) | 49 => ([(9, (.int .i64)), (10, (.int .i64))], [9, 10, 29, 30, 31, 32, 33, 34, 35, 36, 37, 38, 39, 40, 41, 42, 43, 44, 45, 46, 47, 48, 49, 50, 51, 52, 53, 54, 55, 56, 57, 58, 59, 60, 61, 62, 63, 64, 65, 66, 67, 68, 69, 70, 71, 72, 73, 74, 75, 76, 77, 78, 79, 80, 81, 82]) | 80 => ([(10, (.int .i64))], [10, 46, 47, 48, 49, 50, 51, 52, 53, 54, 55, 56, 57, 58, 59, 60, 61]) | _ => ([], []), cuts := fun i => match i with | 5 => some ([(9, (.int .i64))], [9, 29, 30, 31, 32, 33, 34, 35, 36, 37, 38, 39, 40, 41, 42, 43, 44, 45]) | 7 => some ([(10, (.int .i64))], [10, 46, 47, 48, 49, 50, 51, 52, 53, 54, 55, 56, 57, 58, 59, 60, 61]) | _ => none, head := fun i => match i with | 1 => some ([2, 3], [0, 1, 4, 5, 6, 7, 8, 9, 10, 11, 12], [13, 14, 15]) | 3 => some ([], [0, 1, 2, 3, 4, 5, 6, 7, 8, 9, 10, 11], [12, 13, 14]) | 5 => some ([], [0, 1, 2, 3, 4, 5, 6, 7, 8, 9, 10, 11], [12, 13]) | 8 => some ([2, 3], [0, 1, 4, 5, 6, 7, 8, 9, 10, 11, 12], [13, 14, 15]) | _ => none, rng := fun i => match i with | _ => [] }
theorem ok_slices_partitionEqualOrdered_uint32 {data0 : Option Addr} {data0l data0c : Nat} {a1 : Int} {b2 : Int} {pivot3 : Int} {R : Ending → World → Prop} {w : World} (h : V_slices_partitionEqualOrdered_uint32 data0 data0l data0c a1 b2 pivot3 R w) : Calls P F.«slices_partitionEqualOrdered_uint32» ⟨[.slice data0 data0l data0c, .int .i64 a1, .int .i64 b2, .int .i64 pivot3]⟩ w R :=
  calls_of_vc tabOk bdOk mixed (fn := Tryz.f163) (c := bodyOf Tryz.f163) (pl := plan_slices_partitionEqualOrdered_uint32) Tryz.func163 (by kernel_rfl) (Nat.le_of_ble_eq_true (by kernel_rfl)) (by kernel_rfl)
    (Eq.mp (show V_slices_partitionEqualOrdered_uint32 data0 data0l data0c a1 b2 pivot3 R w = vcFun P Tb Bd plan_slices_partitionEqualOrdered_uint32 (raw Tryz.f163.ntmps) Tryz.f163.results.toList (bodyOf Tryz.f163) [.slice data0 data0l data0c, .int .i64 a1, .int .i64 b2, .int .i64 pivot3] R w by kernel_rfl) h)

def V_slices_partitionOrdered_uint32 (data0 : Option Addr) (data0l data0c : Nat) (a1 : Int) (b2 : Int) (pivot3 : Int) (R : Ending → World → Prop) (w : World) : Prop :=
 (0 ≤ pivot3 ∧ pivot3 < (data0l : Int)) ∧
 ptrW data0 fun a18 =>
 ∃ n19 : Int, w.cell? (a18.add (pivot3.toNat * 1)) = some (.int .u32 n19) ∧
 (0 ≤ a1 ∧ a1 < (data0l : Int)) ∧
 ptrW data0 fun a22 =>
 ∃ n23 : Int, w.cell? (a22.add (a1.toNat * 1)) = some (.int .u32 n23) ∧
 (0 ≤ a1 ∧ a1 < (data0l : Int)) ∧
 ptrW data0 fun a24 =>
 ∀ wd1, Drew w wd1 →
 (∃ old, wd1.cell? ((a24.add (a1.toNat * 1)).add 0) = some old) ∧ wd1.frozen? ((a24.add (a1.toNat * 1)).add 0) = false ∧
 letW (wd1.setCell ((a24.add (a1.toNat * 1)).add 0) (.int .u32 n19)) fun u0 =>
 (0 ≤ pivot3 ∧ pivot3 < (data0l : Int)) ∧
 ptrW data0 fun a25 =>
 (∃ old, u0.cell? ((a25.add (pivot3.toNat * 1)).add 0) = some old) ∧ u0.frozen? ((a25.add (pivot3.toNat * 1)).add 0) = false ∧
 letW (u0.setCell ((a25.add (pivot3.toNat * 1)).add 0) (.int .u32 n23)) fun u0_1 =>
 ∃ J5 : Tup [(10, (.int .i64))] → World → Prop, (∃ (I3 : Tup [(10, (.int .i64))] → World → Prop) (μ3 : Tup [(10, (.int .i64))] → World → Nat), I3 ((IntKind.wrap .i64 (a1 + 1)), ()) u0_1 ∧
  ∀ (junk3 : St) (n10 : Int) (wL3 : World), I3 (n10, ()) wL3 →
  bcase (decide (n10 ≤ (IntKind.wrap .i64 (b2 - 1)))) (
   (0 ≤ n10 ∧ n10 < (data0l : Int)) ∧
   ptrW data0 fun a36 =>
   ∃ n37 : Int, wL3.cell? (a36.add (n10.toNat * 1)) = some (.int .u32 n37) ∧
   (0 ≤ a1 ∧ a1 < (data0l : Int)) ∧
   ptrW data0 fun a40 =>
   ∃ n41 : Int, wL3.cell? (a40.add (a1.toNat * 1)) = some (.int .u32 n41) ∧
   ∀ wd3, Drew wL3 wd3 →
   Calls P F.«cmp_Less_uint32» ⟨[.int .u32 n37, .int .u32 n41]⟩ wd3 fun e42 w42 => ∃ b42 : Bool, e42 = .returned (.bool b42) ∧
   bcase b42 (
    I3 ((IntKind.wrap .i64 (n10 + 1)), ()) w42 ∧ μ3 ((IntKind.wrap .i64 (n10 + 1)), ()) w42 < μ3 (n10, ()) wL3)
   (J5 (n10, ()) w42))
  (∀ wd3, Drew wL3 wd3 →
   J5 (n10, ()) wd3)) ∧
 ∀ (junk5 : St) (n10_1 : Int) (wJ5 : World), J5 (n10_1, ()) wJ5 →
 ∃ J7 : Tup [(11, (.int .i64))] → World → Prop, (∃ (I5 : Tup [(11, (.int .i64))] → World → Prop) (μ5 : Tup [(11, (.int .i64))] → World → Nat), I5 ((IntKind.wrap .i64 (b2 - 1)), ()) wJ5 ∧
  ∀ (junk5_1 : St) (n11 : Int) (wL5 : World), I5 (n11, ()) wL5 →
  bcase (decide (n10_1 ≤ n11)) (
   (0 ≤ n11 ∧ n11 < (data0l : Int)) ∧
   ptrW data0 fun a52 =>
   ∃ n53 : Int, wL5.cell? (a52.add (n11.toNat * 1)) = some (.int .u32 n53) ∧
   (0 ≤ a1 ∧ a1 < (data0l : Int)) ∧
   ptrW data0 fun a56 =>
   ∃ n57 : Int, wL5.cell? (a56.add (a1.toNat * 1)) = some (.int .u32 n57) ∧
   ∀ wd5, Drew wL5 wd5 →
   Calls P F.«cmp_Less_uint32» ⟨[.int .u32 n53, .int .u32 n57]⟩ wd5 fun e58 w58 => ∃ b58 : Bool, e58 = .returned (.bool b58) ∧
   bcase (!b58) (
    I5 ((IntKind.wrap .i64 (n11 - 1)), ()) w58 ∧ μ5 ((IntKind.wrap .i64 (n11 - 1)), ()) w58 < μ5 (n11, ()) wL5)
   (J7 (n11, ()) w58))
  (∀ wd5, Drew wL5 wd5 →
   J7 (n11, ()) wd5)) ∧
 ∀ (junk7 : St) (n11_1 : Int) (wJ7 : World), J7 (n11_1, ()) wJ7 →
 bcase (decide (n10_1 > n11_1)) (
  (0 ≤ a1 ∧ a1 < (data0l : Int)) ∧
  ptrW data0 fun a72 =>
  ∃ n73 : Int, wJ7.cell? (a72.add (a1.toNat * 1)) = some (.int .u32 n73) ∧
  (0 ≤ n11_1 ∧ n11_1 < (data0l : Int)) ∧
  ptrW data0 fun a76 =>
  ∃ n77 : Int, wJ7.cell? (a76.add (n11_1.toNat * 1)) = some (.int .u32 n77) ∧
  (0 ≤ n11_1 ∧ n11_1 < (data0l : Int)) ∧
  ptrW data0 fun a78 =>
  ∀ wd8, Drew wJ7 wd8 →
  (∃ old, wd8.cell? ((a78.add (n11_1.toNat * 1)).add 0) = some old) ∧ wd8.frozen? ((a78.add (n11_1.toNat * 1)).add 0) = false ∧
  letW (wd8.setCell ((a78.add (n11_1.toNat * 1)).add 0) (.int .u32 n73)) fun u0_2 =>
  (0 ≤ a1 ∧ a1 < (data0l : Int)) ∧
  ptrW data0 fun a79 =>
  (∃ old, u0_2.cell? ((a79.add (a1.toNat * 1)).add 0) = some old) ∧ u0_2.frozen? ((a79.add (a1.toNat * 1)).add 0) = false ∧
  letW (u0_2.setCell ((a79.add (a1.toNat * 1)).add 0) (.int .u32 n77)) fun u0_3 =>
  R (.returned (.tuple ⟨[.int .i64 n11_1, .bool true]⟩)) u0_3)
 ((0 ≤ n11_1 ∧ n11_1 < (data0l : Int)) ∧
  ptrW data0 fun a87 =>
  ∃ n88 : Int, wJ7.cell? (a87.add (n11_1.toNat * 1)) = some (.int .u32 n88) ∧
  (0 ≤ n10_1 ∧ n10_1 < (data0l : Int)) ∧
  ptrW data0 fun a91 =>
  ∃ n92 : Int, wJ7.cell? (a91.add (n10_1.toNat * 1)) = some (.int .u32 n92) ∧
  (0 ≤ n10_1 ∧ n10_1 < (data0l : Int)) ∧
  ptrW data0 fun a93 =>
  ∀ wd10, Drew wJ7 wd10 →
  (∃ old, wd10.cell? ((a93.add (n10_1.toNat * 1)).add 0) = some old) ∧ wd10.frozen? ((a93.add (n10_1.toNat * 1)).add 0) = false ∧
  letW (wd10.setCell ((a93.add (n10_1.toNat * 1)).add 0) (.int .u32 n88)) fun u0_4 =>
  (0 ≤ n11_1 ∧ n11_1 < (data0l : Int)) ∧
  ptrW data0 fun a94 =>
  (∃ old, u0_4.cell? ((a94.add (n11_1.toNat * 1)).add 0) = some old) ∧ u0_4.frozen? ((a94.add (n11_1.toNat * 1)).add 0) = false ∧
  letW (u0_4.setCell ((a94.add (n11_1.toNat * 1)).add 0) (.int .u32 n92)) fun u0_5 =>
  ∃ (I13 : Tup [(10, (.int .i64)), (11, (.int .i64))] → World → Prop) (μ13 : Tup [(10, (.int .i64)), (11, (.int .i64))] → World → Nat), I13 ((IntKind.wrap .i64 (n10_1 + 1)), (IntKind.wrap .i64 (n11_1 - 1)), ()) u0_5 ∧
  ∀ (junk13 : St) (n10_2 : Int) (n11_2 : Int) (wL13 : World), I13 (n10_2, n11_2, ()) wL13 →
  ∃ J15 : Tup [(10, (.int .i64))] → World → Prop, (∃ (I13_1 : Tup [(10, (.int .i64))] → World → Prop) (μ13_1 : Tup [(10, (.int .i64))] → World → Nat), I13_1 (n10_2, ()) wL13 ∧
   ∀ (junk13_1 : St) (n10_3 : Int) (wL13_1 : World), I13_1 (n10_3, ()) wL13_1 →
   bcase (decide (n10_3 ≤ n11_2)) (
    (0 ≤ n10_3 ∧ n10_3 < (data0l : Int)) ∧
    ptrW data0 fun a105 =>
    ∃ n106 : Int, wL13_1.cell? (a105.add (n10_3.toNat * 1)) = some (.int .u32 n106) ∧
    (0 ≤ a1 ∧ a1 < (data0l : Int)) ∧
    ptrW data0 fun a109 =>
    ∃ n110 : Int, wL13_1.cell? (a109.add (a1.toNat * 1)) = some (.int .u32 n110) ∧
    ∀ wd13, Drew wL13_1 wd13 →
    Calls P F.«cmp_Less_uint32» ⟨[.int .u32 n106, .int .u32 n110]⟩ wd13 fun e111 w111 => ∃ b111 : Bool, e111 = .returned (.bool b111) ∧
    bcase b111 (
     I13_1 ((IntKind.wrap .i64 (n10_3 + 1)), ()) w111 ∧ μ13_1 ((IntKind.wrap .i64 (n10_3 + 1)), ()) w111 < μ13_1 (n10_3, ()) wL13_1)
    (J15 (n10_3, ()) w111))
   (∀ wd13, Drew wL13_1 wd13 →
    J15 (n10_3, ()) wd13)) ∧
  ∀ (junk15 : St) (n10_4 : Int) (wJ15 : World), J15 (n10_4, ()) wJ15 →
  ∃ J17 : Tup [(11, (.int .i64))] → World → Prop, (∃ (I15 : Tup [(11, (.int .i64))] → World → Prop) (μ15 : Tup [(11, (.int .i64))] → World → Nat), I15 (n11_2, ()) wJ15 ∧
   ∀ (junk15_1 : St) (n11_3 : Int) (wL15 : World), I15 (n11_3, ()) wL15 →
   bcase (decide (n10_4 ≤ n11_3)) (
    (0 ≤ n11_3 ∧ n11_3 < (data0l : Int)) ∧
    ptrW data0 fun a121 =>
    ∃ n122 : Int, wL15.cell? (a121.add (n11_3.toNat * 1)) = some (.int .u32 n122) ∧
    (0 ≤ a1 ∧ a1 < (data0l : Int)) ∧
    ptrW data0 fun a125 =>
    ∃ n126 : Int, wL15.cell? (a125.add (a1.toNat * 1)) = some (.int .u32 n126) ∧
    ∀ wd15, Drew wL15 wd15 →
    Calls P F.«cmp_Less_uint32» ⟨[.int .u32 n122, .int .u32 n126]⟩ wd15 fun e127 w127 => ∃ b127 : Bool, e127 = .returned (.bool b127) ∧
    bcase (!b127) (
     I15 ((IntKind.wrap .i64 (n11_3 - 1)), ()) w127 ∧ μ15 ((IntKind.wrap .i64 (n11_3 - 1)), ()) w127 < μ15 (n11_3, ()) wL15)
    (J17 (n11_3, ()) w127))
   (∀ wd15, Drew wL15 wd15 →
    J17 (n11_3, ()) wd15)) ∧
  ∀ (junk17 : St) (n11_4 : Int) (wJ17 : World), J17 (n11_4, ()) wJ17 →
  bcase (decide (n10_4 > n11_4)) (
   (0 ≤ a1 ∧ a1 < (data0l : Int)) ∧
   ptrW data0 fun a159 =>
   ∃ n160 : Int, wJ17.cell? (a159.add (a1.toNat * 1)) = some (.int .u32 n160) ∧
   (0 ≤ n11_4 ∧ n11_4 < (data0l : Int)) ∧
   ptrW data0 fun a163 =>
   ∃ n164 : Int, wJ17.cell? (a163.add (n11_4.toNat * 1)) = some (.int .u32 n164) ∧
   (0 ≤ n11_4 ∧ n11_4 < (data0l : Int)) ∧
   ptrW data0 fun a165 =>
   ∀ wd21, Drew wJ17 wd21 →
   (∃ old, wd21.cell? ((a165.add (n11_4.toNat * 1)).add 0) = some old) ∧ wd21.frozen? ((a165.add (n11_4.toNat * 1)).add 0) = false ∧
   letW (wd21.setCell ((a165.add (n11_4.toNat * 1)).add 0) (.int .u32 n160)) fun u0_6 =>
   (0 ≤ a1 ∧ a1 < (data0l : Int)) ∧
   ptrW data0 fun a166 =>
   (∃ old, u0_6.cell? ((a166.add (a1.toNat * 1)).add 0) = some old) ∧ u0_6.frozen? ((a166.add (a1.toNat * 1)).add 0) = false ∧
   letW (u0_6.setCell ((a166.add (a1.toNat * 1)).add 0) (.int .u32 n164)) fun u0_7 =>
   R (.returned (.tuple ⟨[.int .i64 n11_4, .bool false]⟩)) u0_7)
  ((0 ≤ n11_4 ∧ n11_4 < (data0l : Int)) ∧
   ptrW data0 fun a141 =>
   ∃ n142 : Int, wJ17.cell? (a141.add (n11_4.toNat * 1)) = some (.int .u32 n142) ∧
   (0 ≤ n10_4 ∧ n10_4 < (data0l : Int)) ∧
   ptrW data0 fun a145 =>
   ∃ n146 : Int, wJ17.cell? (a145.add (n10_4.toNat * 1)) = some (.int .u32 n146) ∧
   (0 ≤ n10_4 ∧ n10_4 < (data0l : Int)) ∧
   ptrW data0 fun a147 =>
   ∀ wd18, Drew wJ17 wd18 →
   (∃ old, wd18.cell? ((a147.add (n10_4.toNat * 1)).add 0) = some old) ∧ wd18.frozen? ((a147.add (n10_4.toNat * 1)).add 0) = false ∧
   letW (wd18.setCell ((a147.add (n10_4.toNat * 1)).add 0) (.int .u32 n142)) fun u0_8 =>
   (0 ≤ n11_4 ∧ n11_4 < (data0l : Int)) ∧
   ptrW data0 fun a148 =>
   (∃ old, u0_8.cell? ((a148.add (n11_4.toNat * 1)).add 0) = some old) ∧ u0_8.frozen? ((a148.add (n11_4.toNat * 1)).add 0) = false ∧
   letW (u0_8.setCell ((a148.add (n11_4.toNat * 1)).add 0) (.int .u32 n146)) fun u0_9 =>
   I13 ((IntKind.wrap .i64 (n10_4 + 1)), (IntKind.wrap .i64 (n11_4 - 1)), ()) u0_9 ∧ μ13 ((IntKind.wrap .i64 (n10_4 + 1)), (IntKind.wrap .i64 (n11_4 - 1)), ()) u0_9 < μ13 (n10_2, n11_2, ()) wL13))
def plan_slices_partitionOrdered_uint32 : Plan := { loops := fun i => match i with | 48 => ([(10, (.int .i64))], [10, 30, 31, 32, 33, 34, 35, 36, 37, 38, 39, 40, 41, 42, 43, 44, 45]) | 80 => ([(11, (.int .i64))], [11, 46, 47, 48, 49, 50, 51, 52, 53, 54, 55, 56, 57, 58, 59, 60, 61, 62]) | 208 => ([(10, (.int .i64))], [10, 99, 100, 101, 102, 103, 104, 105, 106, 107, 108, 109, 110, 111, 112, 113, 114]) | 209 => ([(10, (.int .i64)), (11, (.int .i64))], [10, 11, 99, 100, 101, 102, 103, 104, 105, 106, 107, 108, 109, 110, 111, 112, 113, 114, 115, 116, 117, 118, 119, 120, 121, 122, 123, 124, 125, 126, 127, 128, 129, 130, 131, 132, 133, 134, 135, 136, 137, 138, 139, 140, 141, 142, 143, 144, 145, 146, 147, 148, 149, 150, 151, 152]) | 240 => ([(11, (.int .i64))], [11, 115, 116, 117, 118, 119, 120, 121, 122, 123, 124, 125, 126, 127, 128, 129, 130, 131]) | _ => ([], []), cuts := fun i => match i with | 5 => some ([(10, (.int .i64))], [10, 30, 31, 32, 33, 34, 35, 36, 37, 38, 39, 40, 41, 42, 43, 44, 45]) | 7 => some ([(11, (.int .i64))], [11, 46, 47, 48, 49, 50, 51, 52, 53, 54, 55, 56, 57, 58, 59, 60, 61, 62]) | 15 => some ([(10, (.int .i64))], [10, 99, 100, 101, 102, 103, 104, 105, 106, 107, 108, 109, 110, 111, 112, 113, 114]) | 17 => some ([(11, (.int .i64))], [11, 115, 116, 117, 118, 119, 120, 121, 122, 123, 124, 125, 126, 127, 128, 129, 130, 131]) | _ => none, head := fun i => match i with | 1 => some ([2, 3], [0, 1, 4, 5, 6, 7, 8, 9, 10, 11, 12], [13, 14, 15]) | 3 => some ([], [0, 1, 2, 3, 4, 5, 6, 7, 8, 9, 10, 11], [12, 13]) | 5 => some ([], [0, 1, 2, 3, 4, 5, 6, 7, 8, 9, 10, 11], [12, 13, 14]) | 8 => some ([2, 3], [0, 1, 4, 5, 6, 7, 8, 9, 10, 11, 12], [13, 14, 15]) | 10 => some ([2, 3], [0, 1, 4, 5, 6, 7, 8, 9, 10, 11, 12], [13, 14, 15]) | 13 => some ([], [0, 1, 2, 3, 4, 5, 6, 7, 8, 9, 10, 11], [12, 13]) | 15 => some ([], [0, 1, 2, 3, 4, 5, 6, 7, 8, 9, 10, 11], [12, 13, 14]) | 18 => some ([2, 3], [0, 1, 4, 5, 6, 7, 8, 9, 10, 11, 12], [13, 14, 15]) | 21 => some ([2, 3], [0, 1, 4, 5, 6, 7, 8, 9, 10, 11, 12], [13, 14, 15]) | _ => none, rng := fun i => match i with | _ => [] }
theorem ok_slices_partitionOrdered_uint32 {data0 : Option Addr} {data0l data0c : Nat} {a1 : Int} {b2 : Int} {pivot3 : Int} {R : Ending → World → Prop} {w : World} (h : V_slices_partitionOrdered_uint32 data0 data0l data0c a1 b2 pivot3 R w) : Calls P F.«slices_partitionOrdered_uint32» ⟨[.slice data0 data0l data0c, .int .i64 a1, .int .i64 b2, .int .i64 pivot3]⟩ w R :=
  calls_of_vc tabOk bdOk mixed (fn := Tryz.f164) (c := bodyOf Tryz.f164) (pl := plan_slices_partitionOrdered_uint32) Tryz.func164 (by kernel_rfl) (Nat.le_of_ble_eq_true (by kernel_rfl)) (by kernel_rfl)
    (Eq.mp (show V_slices_partitionOrdered_uint32 data0 data0l data0c a1 b2 pivot3 R w = vcFun P Tb Bd plan_slices_partitionOrdered_uint32 (raw Tryz.f164.ntmps) Tryz.f164.results.toList (bodyOf Tryz.f164) [.slice data0 data0l data0c, .int .i64 a1, .int .i64 b2, .int .i64 pivot3] R w by kernel_rfl) h)

def V_math_bits_Len64 (x0 : Int) (R : Ending → World → Prop) (w : World) : Prop :=
 ∃ J4 : Tup [(0, (.int .u64)), (2, (.int .i64))] → World → Prop, (bcase (decide (x0 ≥ 4294967296)) (
   0 ≤ (32 : Int) ∧
   J4 ((Int.fdiv x0 (2 ^ (min (32 : Int).toNat (IntKind.bits .u64)))), 32, ()) w)
  (J4 (x0, 0, ()) w)) ∧
 ∀ (junk4 : St) (n0 : Int) (n2 : Int) (wJ4 : World), J4 (n0, n2, ()) wJ4 →
 ∃ J7 : Tup [(0, (.int .u64)), (2, (.int .i64))] → World → Prop, (bcase (decide (n0 ≥ 65536)) (
   0 ≤ (16 : Int) ∧
   J7 ((Int.fdiv n0 (2 ^ (min (16 : Int).toNat (IntKind.bits .u64)))), (IntKind.wrap .i64 (n2 + 16)), ()) wJ4)
  (J7 (n0, n2, ()) wJ4)) ∧
 ∀ (junk7 : St) (n0_1 : Int) (n2_1 : Int) (wJ7 : World), J7 (n0_1, n2_1, ()) wJ7 →
 bcase (decide (n0_1 ≥ 256)) (
  0 ≤ (8 : Int) ∧
  (0 ≤ (IntKind.wrap .u8 (Int.fdiv n0_1 (2 ^ (min (8 : Int).toNat (IntKind.bits .u64))))) ∧ (IntKind.wrap .u8 (Int.fdiv n0_1 (2 ^ (min (8 : Int).toNat (IntKind.bits .u64))))) < ((bs [0, 1, 2, 2, 3, 3, 3, 3, 4, 4, 4, 4, 4, 4, 4, 4, 5, 5, 5, 5, 5, 5, 5, 5, 5, 5, 5, 5, 5, 5, 5, 5, 6, 6, 6, 6, 6, 6, 6, 6, 6, 6, 6, 6, 6, 6, 6, 6, 6, 6, 6, 6, 6, 6, 6, 6, 6, 6, 6, 6, 6, 6, 6, 6, 7, 7, 7, 7, 7, 7, 7, 7, 7, 7, 7, 7, 7, 7, 7, 7, 7, 7, 7, 7, 7, 7, 7, 7, 7, 7, 7, 7, 7, 7, 7, 7, 7, 7, 7, 7, 7, 7, 7, 7, 7, 7, 7, 7, 7, 7, 7, 7, 7, 7, 7, 7, 7, 7, 7, 7, 7, 7, 7, 7, 7, 7, 7, 7, 8, 8, 8, 8, 8, 8, 8, 8, 8, 8, 8, 8, 8, 8, 8, 8, 8, 8, 8, 8, 8, 8, 8, 8, 8, 8, 8, 8, 8, 8, 8, 8, 8, 8, 8, 8, 8, 8, 8, 8, 8, 8, 8, 8, 8, 8, 8, 8, 8, 8, 8, 8, 8, 8, 8, 8, 8, 8, 8, 8, 8, 8, 8, 8, 8, 8, 8, 8, 8, 8, 8, 8, 8, 8, 8, 8, 8, 8, 8, 8, 8, 8, 8, 8, 8, 8, 8, 8, 8, 8, 8, 8, 8, 8, 8, 8, 8, 8, 8, 8, 8, 8, 8, 8, 8, 8, 8, 8, 8, 8, 8, 8, 8, 8, 8, 8, 8, 8, 8, 8, 8, 8, 8, 8, 8, 8, 8, 8]).size : Int)) ∧
  R (.returned (.int .i64 (IntKind.wrap .i64 ((IntKind.wrap .i64 (n2_1 + 8)) + (IntKind.wrap .i64 (bt (bs [0, 1, 2, 2, 3, 3, 3, 3, 4, 4, 4, 4, 4, 4, 4, 4, 5, 5, 5, 5, 5, 5, 5, 5, 5, 5, 5, 5, 5, 5, 5, 5, 6, 6, 6, 6, 6, 6, 6, 6, 6, 6, 6, 6, 6, 6, 6, 6, 6, 6, 6, 6, 6, 6, 6, 6, 6, 6, 6, 6, 6, 6, 6, 6, 7, 7, 7, 7, 7, 7, 7, 7, 7, 7, 7, 7, 7, 7, 7, 7, 7, 7, 7, 7, 7, 7, 7, 7, 7, 7, 7, 7, 7, 7, 7, 7, 7, 7, 7, 7, 7, 7, 7, 7, 7, 7, 7, 7, 7, 7, 7, 7, 7, 7, 7, 7, 7, 7, 7, 7, 7, 7, 7, 7, 7, 7, 7, 7, 8, 8, 8, 8, 8, 8, 8, 8, 8, 8, 8, 8, 8, 8, 8, 8, 8, 8, 8, 8, 8, 8, 8, 8, 8, 8, 8, 8, 8, 8, 8, 8, 8, 8, 8, 8, 8, 8, 8, 8, 8, 8, 8, 8, 8, 8, 8, 8, 8, 8, 8, 8, 8, 8, 8, 8, 8, 8, 8, 8, 8, 8, 8, 8, 8, 8, 8, 8, 8, 8, 8, 8, 8, 8, 8, 8, 8, 8, 8, 8, 8, 8, 8, 8, 8, 8, 8, 8, 8, 8, 8, 8, 8, 8, 8, 8, 8, 8, 8, 8, 8, 8, 8, 8, 8, 8, 8, 8, 8, 8, 8, 8, 8, 8, 8, 8, 8, 8, 8, 8, 8, 8, 8, 8, 8, 8, 8, 8]) (IntKind.wrap .u8 (Int.fdiv n0_1 (2 ^ (min (8 : Int).toNat (IntKind.bits .u64))))))))))) wJ7)
 ((0 ≤ (IntKind.wrap .u8 n0_1) ∧ (IntKind.wrap .u8 n0_1) < ((bs [0, 1, 2, 2, 3, 3, 3, 3, 4, 4, 4, 4, 4, 4, 4, 4, 5, 5, 5, 5, 5, 5, 5, 5, 5, 5, 5, 5, 5, 5, 5, 5, 6, 6, 6, 6, 6, 6, 6, 6, 6, 6, 6, 6, 6, 6, 6, 6, 6, 6, 6, 6, 6, 6, 6, 6, 6, 6, 6, 6, 6, 6, 6, 6, 7, 7, 7, 7, 7, 7, 7, 7, 7, 7, 7, 7, 7, 7, 7, 7, 7, 7, 7, 7, 7, 7, 7, 7, 7, 7, 7, 7, 7, 7, 7, 7, 7, 7, 7, 7, 7, 7, 7, 7, 7, 7, 7, 7, 7, 7, 7, 7, 7, 7, 7, 7, 7, 7, 7, 7, 7, 7, 7, 7, 7, 7, 7, 7, 8, 8, 8, 8, 8, 8, 8, 8, 8, 8, 8, 8, 8, 8, 8, 8, 8, 8, 8, 8, 8, 8, 8, 8, 8, 8, 8, 8, 8, 8, 8, 8, 8, 8, 8, 8, 8, 8, 8, 8, 8, 8, 8, 8, 8, 8, 8, 8, 8, 8, 8, 8, 8, 8, 8, 8, 8, 8, 8, 8, 8, 8, 8, 8, 8, 8, 8, 8, 8, 8, 8, 8, 8, 8, 8, 8, 8, 8, 8, 8, 8, 8, 8, 8, 8, 8, 8, 8, 8, 8, 8, 8, 8, 8, 8, 8, 8, 8, 8, 8, 8, 8, 8, 8, 8, 8, 8, 8, 8, 8, 8, 8, 8, 8, 8, 8, 8, 8, 8, 8, 8, 8, 8, 8, 8, 8, 8, 8]).size : Int)) ∧
  R (.returned (.int .i64 (IntKind.wrap .i64 (n2_1 + (IntKind.wrap .i64 (bt (bs [0, 1, 2, 2, 3, 3, 3, 3, 4, 4, 4, 4, 4, 4, 4, 4, 5, 5, 5, 5, 5, 5, 5, 5, 5, 5, 5, 5, 5, 5, 5, 5, 6, 6, 6, 6, 6, 6, 6, 6, 6, 6, 6, 6, 6, 6, 6, 6, 6, 6, 6, 6, 6, 6, 6, 6, 6, 6, 6, 6, 6, 6, 6, 6, 7, 7, 7, 7, 7, 7, 7, 7, 7, 7, 7, 7, 7, 7, 7, 7, 7, 7, 7, 7, 7, 7, 7, 7, 7, 7, 7, 7, 7, 7, 7, 7, 7, 7, 7, 7, 7, 7, 7, 7, 7, 7, 7, 7, 7, 7, 7, 7, 7, 7, 7, 7, 7, 7, 7, 7, 7, 7, 7, 7, 7, 7, 7, 7, 8, 8, 8, 8, 8, 8, 8, 8, 8, 8, 8, 8, 8, 8, 8, 8, 8, 8, 8, 8, 8, 8, 8, 8, 8, 8, 8, 8, 8, 8, 8, 8, 8, 8, 8, 8, 8, 8, 8, 8, 8, 8, 8, 8, 8, 8, 8, 8, 8, 8, 8, 8, 8, 8, 8, 8, 8, 8, 8, 8, 8, 8, 8, 8, 8, 8, 8, 8, 8, 8, 8, 8, 8, 8, 8, 8, 8, 8, 8, 8, 8, 8, 8, 8, 8, 8, 8, 8, 8, 8, 8, 8, 8, 8, 8, 8, 8, 8, 8, 8, 8, 8, 8, 8, 8, 8, 8, 8, 8, 8, 8, 8, 8, 8, 8, 8, 8, 8, 8, 8, 8, 8, 8, 8, 8, 8, 8, 8]) (IntKind.wrap .u8 n0_1))))))) wJ7)
def plan_math_bits_Len64 : Plan := { loops := fun i => match i with | _ => ([], []), cuts := fun i => match i with | 4 => some ([(0, (.int .u64)), (2, (.int .i64))], [0, 2, 3, 4, 5, 6]) | 7 => some ([(0, (.int .u64)), (2, (.int .i64))], [0, 2, 7, 8, 9, 10, 11, 12]) | _ => none, head := fun i => match i with | _ => none, rng := fun i => match i with | _ => [] }
theorem ok_math_bits_Len64 {x0 : Int} {R : Ending → World → Prop} {w : World} (h : V_math_bits_Len64 x0 R w) : Calls P F.«math_bits_Len64» ⟨[.int .u64 x0]⟩ w R :=
  calls_of_vc tabOk bdOk mixed (fn := Tryz.f166) (c := bodyOf Tryz.f166) (pl := plan_math_bits_Len64) Tryz.func166 (by kernel_rfl) (Nat.le_of_ble_eq_true (by kernel_rfl)) (by kernel_rfl)
    (Eq.mp (show V_math_bits_Len64 x0 R w = vcFun P Tb Bd plan_math_bits_Len64 (raw Tryz.f166.ntmps) Tryz.f166.results.toList (bodyOf Tryz.f166) [.int .u64 x0] R w by kernel_rfl) h)

def V_hash_Index_is (x0 : Option Addr) (R : Ending → World → Prop) (w : World) : Prop :=
 bcase (!(x0).isNone) (
  ptrW x0 fun a7 =>
  ∃ b9 : Bool, w.cell? (a7.add 0) = some (.bool b9) ∧
  R (.returned (.bool b9)) w)
 (R (.returned (.bool false)) w)
def plan_hash_Index_is : Plan := { loops := fun i => match i with | _ => ([], []), cuts := fun i => match i with | _ => none, head := fun i => match i with | _ => none, rng := fun i => match i with | _ => [] }
theorem ok_hash_Index_is {x0 : Option Addr} {R : Ending → World → Prop} {w : World} (h : V_hash_Index_is x0 R w) : Calls P F.«hash_Index_is» ⟨[.pointer x0]⟩ w R :=
  calls_of_vc tabOk bdOk mixed (fn := Tryz.f171) (c := bodyOf Tryz.f171) (pl := plan_hash_Index_is) Tryz.func171 (by kernel_rfl) (Nat.le_of_ble_eq_true (by kernel_rfl)) (by kernel_rfl)
    (Eq.mp (show V_hash_Index_is x0 R w = vcFun P Tb Bd plan_hash_Index_is (raw Tryz.f171.ntmps) Tryz.f171.results.toList (bodyOf Tryz.f171) [.pointer x0] R w by kernel_rfl) h)

def V_hash_Bucket (s0 : ByteArray) (R : Ending → World → Prop) (w : World) : Prop :=
 ∃ (I3 : Tup [(3, (.int .i64)), (9, (.int .i64))] → World → Prop) (μ3 : Tup [(3, (.int .i64)), (9, (.int .i64))] → World → Nat), I3 ((s0.size : Int), 0, ()) w ∧
 ∀ (junk3 : St) (n3 : Int) (n9 : Int) (wL3 : World), I3 (n3, n9, ()) wL3 →
 bcase (decide (n9 < (s0.size : Int))) (
  (0 ≤ n9 ∧ n9 < (s0.size : Int)) ∧
  (7 : Int) ≠ 0 ∧ I3 ((IntKind.wrap .i64 (n3 + (IntKind.wrap .i64 ((IntKind.wrap .i64 (bt s0 n9)) * (IntKind.wrap .i64 ((IntKind.wrap .i64 ((Int.tmod n9 7) * 2)) + 1)))))), (IntKind.wrap .i64 (n9 + 1)), ()) wL3 ∧ μ3 ((IntKind.wrap .i64 (n3 + (IntKind.wrap .i64 ((IntKind.wrap .i64 (bt s0 n9)) * (IntKind.wrap .i64 ((IntKind.wrap .i64 ((Int.tmod n9 7) * 2)) + 1)))))), (IntKind.wrap .i64 (n9 + 1)), ()) wL3 < μ3 (n3, n9, ()) wL3)
 ((16 : Int) ≠ 0 ∧ R (.returned (.int .u8 (IntKind.wrap .u8 (Int.tmod n3 16)))) wL3)
def plan_hash_Bucket : Plan := { loops := fun i => match i with | 48 => ([(3, (.int .i64)), (9, (.int .i64))], [3, 4, 9, 10, 11, 12, 13, 14, 15, 16, 17, 18, 19, 20, 21, 22, 23]) | _ => ([], []), cuts := fun i => match i with | _ => none, head := fun i => match i with | _ => none, rng := fun i => match i with | _ => [] }
theorem ok_hash_Bucket {s0 : ByteArray} {R : Ending → World → Prop} {w : World} (h : V_hash_Bucket s0 R w) : Calls P F.«hash_Bucket» ⟨[.string s0]⟩ w R :=
  calls_of_vc tabOk bdOk mixed (fn := Tryz.f172) (c := bodyOf Tryz.f172) (pl := plan_hash_Bucket) Tryz.func172 (by kernel_rfl) (Nat.le_of_ble_eq_true (by kernel_rfl)) (by kernel_rfl)
    (Eq.mp (show V_hash_Bucket s0 R w = vcFun P Tb Bd plan_hash_Bucket (raw Tryz.f172.ntmps) Tryz.f172.results.toList (bodyOf Tryz.f172) [.string s0] R w by kernel_rfl) h)

def V_slices_Contains_sl_uint32_uint32 (s0 : Option Addr) (s0l s0c : Nat) (v1 : Int) (R : Ending → World → Prop) (w : World) : Prop :=
 Calls P F.«slices_Index_sl_uint32_uint32» ⟨[.slice s0 s0l s0c, .int .u32 v1]⟩ w fun e7 w7 => ∃ n7 : Int, e7 = .returned (.int .i64 n7) ∧
 R (.returned (.bool (decide (n7 ≥ 0)))) w7
def plan_slices_Contains_sl_uint32_uint32 : Plan := { loops := fun i => match i with | _ => ([], []), cuts := fun i => match i with | _ => none, head := fun i => match i with | _ => none, rng := fun i => match i with | _ => [] }
theorem ok_slices_Contains_sl_uint32_uint32 {s0 : Option Addr} {s0l s0c : Nat} {v1 : Int} {R : Ending → World → Prop} {w : World} (h : V_slices_Contains_sl_uint32_uint32 s0 s0l s0c v1 R w) : Calls P F.«slices_Contains_sl_uint32_uint32» ⟨[.slice s0 s0l s0c, .int .u32 v1]⟩ w R :=
  calls_of_vc tabOk bdOk mixed (fn := Tryz.f173) (c := bodyOf Tryz.f173) (pl := plan_slices_Contains_sl_uint32_uint32) Tryz.func173 (by kernel_rfl) (Nat.le_of_ble_eq_true (by kernel_rfl)) (by kernel_rfl)
    (Eq.mp (show V_slices_Contains_sl_uint32_uint32 s0 s0l s0c v1 R w = vcFun P Tb Bd plan_slices_Contains_sl_uint32_uint32 (raw Tryz.f173.ntmps) Tryz.f173.results.toList (bodyOf Tryz.f173) [.slice s0 s0l s0c, .int .u32 v1] R w by kernel_rfl) h)

def V_slices_Index_sl_uint32_uint32 (s0 : Option Addr) (s0l s0c : Nat) (v1 : Int) (R : Ending → World → Prop) (w : World) : Prop :=
 ∃ (I2 : Tup [(8, (.int .i64))] → World → Prop) (μ2 : Tup [(8, (.int .i64))] → World → Nat), I2 (0, ()) w ∧
 ∀ (junk2 : St) (n8 : Int) (wL2 : World), I2 (n8, ()) wL2 →
 bcase (decide (n8 < (s0l : Int))) (
  (0 ≤ n8 ∧ n8 < (s0l : Int)) ∧
  ptrW s0 fun a14 =>
  ∃ n15 : Int, wL2.cell? (a14.add (n8.toNat * 1)) = some (.int .u32 n15) ∧
  bcase (v1 == n15) (
   R (.returned (.int .i64 n8)) wL2)
  (I2 ((IntKind.wrap .i64 (n8 + 1)), ()) wL2 ∧ μ2 ((IntKind.wrap .i64 (n8 + 1)), ()) wL2 < μ2 (n8, ()) wL2))
 (R (.returned (.int .i64 (-1))) wL2)
def plan_slices_Index_sl_uint32_uint32 : Plan := { loops := fun i => match i with | 32 => ([(8, (.int .i64))], [4, 5, 8, 9, 10, 11, 12, 13, 14, 15, 16, 17, 18]) | _ => ([], []), cuts := fun i => match i with | _ => none, head := fun i => match i with | _ => none, rng := fun i => match i with | _ => [] }
theorem ok_slices_Index_sl_uint32_uint32 {s0 : Option Addr} {s0l s0c : Nat} {v1 : Int} {R : Ending → World → Prop} {w : World} (h : V_slices_Index_sl_uint32_uint32 s0 s0l s0c v1 R w) : Calls P F.«slices_Index_sl_uint32_uint32» ⟨[.slice s0 s0l s0c, .int .u32 v1]⟩ w R :=
  calls_of_vc tabOk bdOk mixed (fn := Tryz.f174) (c := bodyOf Tryz.f174) (pl := plan_slices_Index_sl_uint32_uint32) Tryz.func174 (by kernel_rfl) (Nat.le_of_ble_eq_true (by kernel_rfl)) (by kernel_rfl)
    (Eq.mp (show V_slices_Index_sl_uint32_uint32 s0 s0l s0c v1 R w = vcFun P Tb Bd plan_slices_Index_sl_uint32_uint32 (raw Tryz.f174.ntmps) Tryz.f174.results.toList (bodyOf Tryz.f174) [.slice s0 s0l s0c, .int .u32 v1] R w by kernel_rfl) h)

def V_slices_Delete_sl_uint32_uint32 (s0 : Option Addr) (s0l s0c : Nat) (i1 : Int) (j2 : Int) (R : Ending → World → Prop) (w : World) : Prop :=
 (0 ≤ i1 ∧ i1 ≤ j2 ∧ j2 ≤ (s0l : Int) ∧ (s0l : Int) ≤ (s0c : Int)) ∧
 bcase (i1 == j2) (
  R (.returned (.slice s0 s0l s0c)) w)
 ((0 ≤ (0 : Int) ∧ (0 : Int) ≤ i1 ∧ i1 ≤ (s0c : Int) ∧ (s0c : Int) ≤ (s0c : Int)) ∧
  (0 ≤ j2 ∧ j2 ≤ (s0l : Int) ∧ (s0l : Int) ≤ (s0c : Int) ∧ (s0c : Int) ≤ (s0c : Int)) ∧
  ∀ wd5, Drew w wd5 →
  ∃ (a26 : Option Addr) (l26 c26 : Nat), ∃ w26, (Builtin.append_ ⟨[T.«l_u32», T.«l_u32»]⟩ T.«l_u32» ⟨[.slice (if (s0c : Int).toNat = (0 : Int).toNat then s0 else s0.map (·.add ((0 : Int).toNat * 1))) (i1.toNat - (0 : Int).toNat) ((s0c : Int).toNat - (0 : Int).toNat), .slice (if (s0c : Int).toNat = j2.toNat then s0 else s0.map (·.add (j2.toNat * 1))) ((s0l : Int).toNat - j2.toNat) ((s0c : Int).toNat - j2.toNat)]⟩).run P wd5 = .ok (.slice a26 l26 c26) w26 ∧
  (0 ≤ (l26 : Int) ∧ (l26 : Int) ≤ (s0l : Int) ∧ (s0l : Int) ≤ (c26 : Int) ∧ (c26 : Int) ≤ (c26 : Int)) ∧
  ∃ wx5, (Builtin.clear_ ⟨[T.«l_u32»]⟩ T.«tup_» ⟨[.slice (if (c26 : Int).toNat = (l26 : Int).toNat then a26 else a26.map (·.add ((l26 : Int).toNat * 1))) ((s0l : Int).toNat - (l26 : Int).toNat) ((c26 : Int).toNat - (l26 : Int).toNat)]⟩).run P w26 = .ok (.tuple ⟨[]⟩) wx5 ∧
  R (.returned (.slice a26 l26 c26)) wx5)
def plan_slices_Delete_sl_uint32_uint32 : Plan := { loops := fun i => match i with | _ => ([], []), cuts := fun i => match i with | _ => none, head := fun i => match i with | 5 => some ([], [0, 1, 2, 3, 4, 5], [6, 7]) | _ => none, rng := fun i => match i with | _ => [] }
theorem ok_slices_Delete_sl_uint32_uint32 {s0 : Option Addr} {s0l s0c : Nat} {i1 : Int} {j2 : Int} {R : Ending → World → Prop} {w : World} (h : V_slices_Delete_sl_uint32_uint32 s0 s0l s0c i1 j2 R w) : Calls P F.«slices_Delete_sl_uint32_uint32» ⟨[.slice s0 s0l s0c, .int .i64 i1, .int .i64 j2]⟩ w R :=
  calls_of_vc tabOk bdOk mixed (fn := Tryz.f175) (c := bodyOf Tryz.f175) (pl := plan_slices_Delete_sl_uint32_uint32) Tryz.func175 (by kernel_rfl) (Nat.le_of_ble_eq_true (by kernel_rfl)) (by kernel_rfl)
    (Eq.mp (show V_slices_Delete_sl_uint32_uint32 s0 s0l s0c i1 j2 R w = vcFun P Tb Bd plan_slices_Delete_sl_uint32_uint32 (raw Tryz.f175.ntmps) Tryz.f175.results.toList (bodyOf Tryz.f175) [.slice s0 s0l s0c, .int .i64 i1, .int .i64 j2] R w by kernel_rfl) h)

def V_device_Device_settle (d0 : Option Addr) (first1 : Value) (R : Ending → World → Prop) (w : World) : Prop :=
 bcase ((d0).isNone) (
  R (.returned (.int .i64 0)) w)
 (ptrW d0 fun a11 =>
  ∃ (a13 : Option Addr) (l13 c13 : Nat), w.cell? (a11.add 0) = some (.slice a13 l13 c13) ∧
  ∃ (I5 : Tup [(5, (.int .i64)), (15, (.int .i64))] → World → Prop) (μ5 : Tup [(5, (.int .i64)), (15, (.int .i64))] → World → Nat), I5 (0, 0, ()) w ∧
  ∀ (junk5 : St) (n5 : Int) (n15 : Int) (wL5 : World), I5 (n5, n15, ()) wL5 →
  bcase (decide (n15 < (l13 : Int))) (
   ptrW d0 fun a19 =>
   ∃ (a21 : Option Addr) (l21 c21 : Nat), wL5.cell? (a19.add 0) = some (.slice a21 l21 c21) ∧
   (0 ≤ n15 ∧ n15 < (l21 : Int)) ∧
   ptrW a21 fun a23 =>
   ∃ b27 : Bool, wL5.cell? ((a23.add (n15.toNat * 129)).add 128) = some (.bool b27) ∧
   bcase (!b27) (
    I5 (n5, (IntKind.wrap .i64 (n15 + 1)), ()) wL5 ∧ μ5 (n5, (IntKind.wrap .i64 (n15 + 1)), ()) wL5 < μ5 (n5, n15, ()) wL5)
   (∃ J11 : Tup [] → World → Prop, (CK.exs (List.replicate 64 (.int .u8)) fun vs32 => cellsAt wL5 (((a23.add (n15.toNat * 129)).add 64)) 0 vs32 ∧
     CK.exs (List.replicate 64 (.int .u8)) fun vs36 => cellsAt wL5 (((a23.add (n15.toNat * 129)).add 0)) 0 vs36 ∧
     ∃ b37 : Bool, eqlRun P .neq T.«device_bytes» ((.agg ⟨vs32⟩)) ((.agg ⟨vs36⟩)) wL5 b37 ∧
     ∀ wd9, Drew wL5 wd9 →
     bcase b37 (
      ∀ wd10, Drew wd9 wd10 →
      (0 ≤ (0 : Int) ∧ (0 : Int) ≤ ((64 : Nat) : Int) ∧ ((64 : Nat) : Int) ≤ ((64 : Nat) : Int)) ∧
      callV P Bd first1 [.int .i64 n5] wd10 fun e47 w47 => ∃ n47 : Int, e47 = .returned (.int .i64 n47) ∧
      (0 ≤ (0 : Int) ∧ (0 : Int) ≤ (if 64 < n47 then 64 else n47) ∧ (if 64 < n47 then 64 else n47) ≤ ((64 : Nat) : Int)) ∧
      ∃ n50 : Int, ∃ w50, (Builtin.copy_ ⟨[T.«l_u8», T.«l_u8»]⟩ T.«i64'» ⟨[.slice (some (if 64 = (0 : Int).toNat then ((a23.add (n15.toNat * 129)).add 0) else ((a23.add (n15.toNat * 129)).add 0).add ((0 : Int).toNat * 1))) (((64 : Nat) : Int).toNat - (0 : Int).toNat) (64 - (0 : Int).toNat), .slice (some (if 64 = (0 : Int).toNat then ((a23.add (n15.toNat * 129)).add 64) else ((a23.add (n15.toNat * 129)).add 64).add ((0 : Int).toNat * 1))) ((if 64 < n47 then 64 else n47).toNat - (0 : Int).toNat) (64 - (0 : Int).toNat)]⟩).run P w47 = .ok (.int .i64 n50) w50 ∧
      J11 () w50)
     (J11 () wd9)) ∧
    ∀ (junk11 : St) (wJ11 : World), J11 () wJ11 →
    CK.exs (List.replicate 64 (.int .u8)) fun vs56 => cellsAt wJ11 (((a23.add (n15.toNat * 129)).add 0)) 0 vs56 ∧
    bW (Nat.beq vs56.length 64) (storeW vs56 ((a23.add (n15.toNat * 129)).add 64) 0 (fun u0 =>
      (∃ old, u0.cell? (((a23.add (n15.toNat * 129)).add 128).add 0) = some old) ∧ u0.frozen? (((a23.add (n15.toNat * 129)).add 128).add 0) = false ∧
      letW (u0.setCell (((a23.add (n15.toNat * 129)).add 128).add 0) (.bool false)) fun u0_1 =>
      I5 ((IntKind.wrap .i64 (n5 + 1)), (IntKind.wrap .i64 (n15 + 1)), ()) u0_1 ∧ μ5 ((IntKind.wrap .i64 (n5 + 1)), (IntKind.wrap .i64 (n15 + 1)), ()) u0_1 < μ5 (n5, n15, ()) wL5) wJ11)))
  (R (.returned (.int .i64 n5)) wL5))
def plan_device_Device_settle : Plan := { loops := fun i => match i with | 80 => ([(5, (.int .i64)), (15, (.int .i64))], [5, 6, 7, 15, 16, 17, 18, 19, 20, 21, 22, 23, 24, 25, 26, 27, 28, 29, 30, 31, 32, 33, 34, 35, 36, 37, 38, 39, 40, 41, 42, 43, 44, 45, 46, 47, 48, 49, 50, 51, 52, 53, 54, 55, 56, 57, 58, 59, 60, 61, 62, 63]) | _ => ([], []), cuts := fun i => match i with | 11 => some ([], [29, 30, 31, 32, 33, 34, 35, 36, 37, 38, 39, 40, 41, 42, 43, 44, 45, 46, 47, 48, 49, 50]) | _ => none, head := fun i => match i with | 9 => some ([], [0, 1, 2, 3, 4, 5, 6, 7, 8], []) | _ => none, rng := fun i => match i with | _ => [], stg := fun i => match i with | 10 => some ((.q 0 (.q 1 (.q 2 (.q 3 (.q 4 (.q 5 (.q 6 (.q 7 (.q 8 (.w 9 [] (.q 10 (.q 11 (.w 12 [] .done))))))))))))), [0, 1, 3, 7, 0, 16, 48, 0, 0, 384, 896, 2032, 4095]) | _ => none }
theorem ok_device_Device_settle {d0 : Option Addr} {first1 : Value} {R : Ending → World → Prop} {w : World} (h : V_device_Device_settle d0 first1 R w) : Calls P F.«device_Device_settle» ⟨[.pointer d0, first1]⟩ w R :=
  calls_of_vc tabOk bdOk mixed (fn := Tryz.f176) (c := bodyOf Tryz.f176) (pl := plan_device_Device_settle) Tryz.func176 (by kernel_rfl) (Nat.le_of_ble_eq_true (by kernel_rfl)) (by kernel_rfl)
    (Eq.mp (show V_device_Device_settle d0 first1 R w = vcFun P Tb Bd plan_device_Device_settle (raw Tryz.f176.ntmps) Tryz.f176.results.toList (bodyOf Tryz.f176) [.pointer d0, first1] R w by kernel_rfl) h)

def V_device_Device_Flush_1 (x0 : Int) (R : Ending → World → Prop) (w : World) : Prop :=
 R (.returned (.int .i64 64)) w
def plan_device_Device_Flush_1 : Plan := { loops := fun i => match i with | _ => ([], []), cuts := fun i => match i with | _ => none, head := fun i => match i with | _ => none, rng := fun i => match i with | _ => [] }
theorem ok_device_Device_Flush_1 {x0 : Int} {R : Ending → World → Prop} {w : World} (h : V_device_Device_Flush_1 x0 R w) : Calls P F.«device_Device_Flush_1» ⟨[.int .i64 x0]⟩ w R :=
  calls_of_vc tabOk bdOk mixed (fn := Tryz.f177) (c := bodyOf Tryz.f177) (pl := plan_device_Device_Flush_1) Tryz.func177 (by kernel_rfl) (Nat.le_of_ble_eq_true (by kernel_rfl)) (by kernel_rfl)
    (Eq.mp (show V_device_Device_Flush_1 x0 R w = vcFun P Tb Bd plan_device_Device_Flush_1 (raw Tryz.f177.ntmps) Tryz.f177.results.toList (bodyOf Tryz.f177) [.int .i64 x0] R w by kernel_rfl) h)

def V_slices_Clone_sl_uint32_uint32 (s0 : Option Addr) (s0l s0c : Nat) (R : Ending → World → Prop) (w : World) : Prop :=
 bcase s0.isNone (
  R (.returned (.slice none 0 0)) w)
 (∃ (a5 : Option Addr) (l5 c5 : Nat), ∃ w5, (Instr.buildSlice T.«l_u32» 0 ⟨[]⟩).run P w = .ok (.slice a5 l5 c5) w5 ∧
  ∃ (a7 : Option Addr) (l7 c7 : Nat), ∃ w7, (Builtin.append_ ⟨[T.«l_u32», T.«l_u32»]⟩ T.«l_u32» ⟨[.slice a5 l5 c5, .slice s0 s0l s0c]⟩).run P w5 = .ok (.slice a7 l7 c7) w7 ∧
  R (.returned (.slice a7 l7 c7)) w7)
def plan_slices_Clone_sl_uint32_uint32 : Plan := { loops := fun i => match i with | _ => ([], []), cuts := fun i => match i with | _ => none, head := fun i => match i with | _ => none, rng := fun i => match i with | _ => [] }
theorem ok_slices_Clone_sl_uint32_uint32 {s0 : Option Addr} {s0l s0c : Nat} {R : Ending → World → Prop} {w : World} (h : V_slices_Clone_sl_uint32_uint32 s0 s0l s0c R w) : Calls P F.«slices_Clone_sl_uint32_uint32» ⟨[.slice s0 s0l s0c]⟩ w R :=
  calls_of_vc tabOk bdOk mixed (fn := Tryz.f178) (c := bodyOf Tryz.f178) (pl := plan_slices_Clone_sl_uint32_uint32) Tryz.func178 (by kernel_rfl) (Nat.le_of_ble_eq_true (by kernel_rfl)) (by kernel_rfl)
    (Eq.mp (show V_slices_Clone_sl_uint32_uint32 s0 s0l s0c R w = vcFun P Tb Bd plan_slices_Clone_sl_uint32_uint32 (raw Tryz.f178.ntmps) Tryz.f178.results.toList (bodyOf Tryz.f178) [.slice s0 s0l s0c] R w by kernel_rfl) h)

def V_device_Device_Crash_1 (i0 : Int) (c1 : Option Addr) (R : Ending → World → Prop) (w : World) : Prop :=
 ptrW c1 fun a5 =>
 ∃ (a5_1 : Option Addr) (l5 c5 : Nat), w.cell? a5 = some (.slice a5_1 l5 c5) ∧
 bcase ((l5 : Int) == 0) (
  R (.returned (.int .i64 0)) w)
 (ptrW c1 fun a8 =>
  ∃ (a8_1 : Option Addr) (l8 c8 : Nat), w.cell? a8 = some (.slice a8_1 l8 c8) ∧
  ptrW c1 fun a10 =>
  ∃ (a10_1 : Option Addr) (l10 c10 : Nat), w.cell? a10 = some (.slice a10_1 l10 c10) ∧
  (l10 : Int) ≠ 0 ∧ (0 ≤ (Int.tmod i0 (l10 : Int)) ∧ (Int.tmod i0 (l10 : Int)) < (l8 : Int)) ∧
  ptrW a8_1 fun a13 =>
  ∃ n14 : Int, w.cell? (a13.add ((Int.tmod i0 (l10 : Int)).toNat * 1)) = some (.int .i64 n14) ∧
  (66 : Int) ≠ 0 ∧ ∀ wd3, Drew w wd3 →
  bcase (decide ((Int.tmod n14 66) < 0)) (
   R (.returned (.int .i64 (IntKind.wrap .i64 ((Int.tmod n14 66) + 66)))) wd3)
  (R (.returned (.int .i64 (Int.tmod n14 66))) wd3))
def plan_device_Device_Crash_1 : Plan := { loops := fun i => match i with | _ => ([], []), cuts := fun i => match i with | _ => none, head := fun i => match i with | 3 => some ([], [0, 1, 2, 3, 4, 5, 6, 7, 8], []) | _ => none, rng := fun i => match i with | _ => [] }
theorem ok_device_Device_Crash_1 {i0 : Int} {c1 : Option Addr} {R : Ending → World → Prop} {w : World} (h : V_device_Device_Crash_1 i0 c1 R w) : Calls P F.«device_Device_Crash_1» ⟨[.int .i64 i0, .pointer c1]⟩ w R :=
  calls_of_vc tabOk bdOk mixed (fn := Tryz.f179) (c := bodyOf Tryz.f179) (pl := plan_device_Device_Crash_1) Tryz.func179 (by kernel_rfl) (Nat.le_of_ble_eq_true (by kernel_rfl)) (by kernel_rfl)
    (Eq.mp (show V_device_Device_Crash_1 i0 c1 R w = vcFun P Tb Bd plan_device_Device_Crash_1 (raw Tryz.f179.ntmps) Tryz.f179.results.toList (bodyOf Tryz.f179) [.int .i64 i0, .pointer c1] R w by kernel_rfl) h)

def V_slices_siftDownOrdered_uint32 (data0 : Option Addr) (data0l data0c : Nat) (lo1 : Int) (hi2 : Int) (first3 : Int) (R : Ending → World → Prop) (w : World) : Prop :=
 ∃ (I1 : Tup [(8, (.int .i64))] → World → Prop) (μ1 : Tup [(8, (.int .i64))] → World → Nat), I1 (lo1, ()) w ∧
 ∀ (junk1 : St) (n8 : Int) (wL1 : World), I1 (n8, ()) wL1 →
 bcase (decide ((IntKind.wrap .i64 ((IntKind.wrap .i64 (2 * n8)) + 1)) ≥ hi2)) (
  R (.returned (.tuple ⟨[]⟩)) wL1)
 (∃ J5 : Tup [(9, (.int .i64))] → World → Prop, (bcase (decide ((IntKind.wrap .i64 ((IntKind.wrap .i64 ((IntKind.wrap .i64 (2 * n8)) + 1)) + 1)) < hi2)) (
    (0 ≤ (IntKind.wrap .i64 (first3 + (IntKind.wrap .i64 ((IntKind.wrap .i64 (2 * n8)) + 1)))) ∧ (IntKind.wrap .i64 (first3 + (IntKind.wrap .i64 ((IntKind.wrap .i64 (2 * n8)) + 1)))) < (data0l : Int)) ∧
    ptrW data0 fun a26 =>
    ∃ n27 : Int, wL1.cell? (a26.add ((IntKind.wrap .i64 (first3 + (IntKind.wrap .i64 ((IntKind.wrap .i64 (2 * n8)) + 1)))).toNat * 1)) = some (.int .u32 n27) ∧
    (0 ≤ (IntKind.wrap .i64 ((IntKind.wrap .i64 (first3 + (IntKind.wrap .i64 ((IntKind.wrap .i64 (2 * n8)) + 1)))) + 1)) ∧ (IntKind.wrap .i64 ((IntKind.wrap .i64 (first3 + (IntKind.wrap .i64 ((IntKind.wrap .i64 (2 * n8)) + 1)))) + 1)) < (data0l : Int)) ∧
    ptrW data0 fun a33 =>
    ∃ n34 : Int, wL1.cell? (a33.add ((IntKind.wrap .i64 ((IntKind.wrap .i64 (first3 + (IntKind.wrap .i64 ((IntKind.wrap .i64 (2 * n8)) + 1)))) + 1)).toNat * 1)) = some (.int .u32 n34) ∧
    ∀ wd3, Drew wL1 wd3 →
    Calls P F.«cmp_Less_uint32» ⟨[.int .u32 n27, .int .u32 n34]⟩ wd3 fun e35 w35 => ∃ b35 : Bool, e35 = .returned (.bool b35) ∧
    bcase b35 (
     J5 ((IntKind.wrap .i64 ((IntKind.wrap .i64 ((IntKind.wrap .i64 (2 * n8)) + 1)) + 1)), ()) w35)
    (J5 ((IntKind.wrap .i64 ((IntKind.wrap .i64 (2 * n8)) + 1)), ()) w35))
   (∀ wd3, Drew wL1 wd3 →
    J5 ((IntKind.wrap .i64 ((IntKind.wrap .i64 (2 * n8)) + 1)), ()) wd3)) ∧
  ∀ (junk5 : St) (n9 : Int) (wJ5 : World), J5 (n9, ()) wJ5 →
  (0 ≤ (IntKind.wrap .i64 (first3 + n8)) ∧ (IntKind.wrap .i64 (first3 + n8)) < (data0l : Int)) ∧
  ptrW data0 fun a43 =>
  ∃ n44 : Int, wJ5.cell? (a43.add ((IntKind.wrap .i64 (first3 + n8)).toNat * 1)) = some (.int .u32 n44) ∧
  (0 ≤ (IntKind.wrap .i64 (first3 + n9)) ∧ (IntKind.wrap .i64 (first3 + n9)) < (data0l : Int)) ∧
  ptrW data0 fun a49 =>
  ∃ n50 : Int, wJ5.cell? (a49.add ((IntKind.wrap .i64 (first3 + n9)).toNat * 1)) = some (.int .u32 n50) ∧
  ∀ wd5, Drew wJ5 wd5 →
  Calls P F.«cmp_Less_uint32» ⟨[.int .u32 n44, .int .u32 n50]⟩ wd5 fun e51 w51 => ∃ b51 : Bool, e51 = .returned (.bool b51) ∧
  bcase (!b51) (
   R (.returned (.tuple ⟨[]⟩)) w51)
  ((0 ≤ (IntKind.wrap .i64 (first3 + n9)) ∧ (IntKind.wrap .i64 (first3 + n9)) < (data0l : Int)) ∧
   ptrW data0 fun a65 =>
   ∃ n66 : Int, w51.cell? (a65.add ((IntKind.wrap .i64 (first3 + n9)).toNat * 1)) = some (.int .u32 n66) ∧
   (0 ≤ (IntKind.wrap .i64 (first3 + n8)) ∧ (IntKind.wrap .i64 (first3 + n8)) < (data0l : Int)) ∧
   ptrW data0 fun a71 =>
   ∃ n72 : Int, w51.cell? (a71.add ((IntKind.wrap .i64 (first3 + n8)).toNat * 1)) = some (.int .u32 n72) ∧
   (0 ≤ (IntKind.wrap .i64 (first3 + n8)) ∧ (IntKind.wrap .i64 (first3 + n8)) < (data0l : Int)) ∧
   ptrW data0 fun a73 =>
   ∀ wd6, Drew w51 wd6 →
   (∃ old, wd6.cell? ((a73.add ((IntKind.wrap .i64 (first3 + n8)).toNat * 1)).add 0) = some old) ∧ wd6.frozen? ((a73.add ((IntKind.wrap .i64 (first3 + n8)).toNat * 1)).add 0) = false ∧
   letW (wd6.setCell ((a73.add ((IntKind.wrap .i64 (first3 + n8)).toNat * 1)).add 0) (.int .u32 n66)) fun u0 =>
   (0 ≤ (IntKind.wrap .i64 (first3 + n9)) ∧ (IntKind.wrap .i64 (first3 + n9)) < (data0l : Int)) ∧
   ptrW data0 fun a74 =>
   (∃ old, u0.cell? ((a74.add ((IntKind.wrap .i64 (first3 + n9)).toNat * 1)).add 0) = some old) ∧ u0.frozen? ((a74.add ((IntKind.wrap .i64 (first3 + n9)).toNat * 1)).add 0) = false ∧
   letW (u0.setCell ((a74.add ((IntKind.wrap .i64 (first3 + n9)).toNat * 1)).add 0) (.int .u32 n72)) fun u0_1 =>
   I1 (n9, ()) u0_1 ∧ μ1 (n9, ()) u0_1 < μ1 (n8, ()) wL1))
def plan_slices_siftDownOrdered_uint32 : Plan := { loops := fun i => match i with | 16 => ([(8, (.int .i64))], [8, 9, 11, 12, 13, 14, 15, 16, 17, 18, 19, 20, 21, 22, 23, 24, 25, 26, 27, 28, 29, 30, 31, 32, 33, 34, 35, 36, 37, 38, 39, 40, 41, 42, 43, 44, 45, 46, 47, 48, 49, 50, 51, 52, 53, 54, 55, 56, 57, 58, 59, 60, 61, 62, 63, 64, 65, 66, 67, 68, 69, 70, 71, 72, 73, 74, 75]) | _ => ([], []), cuts := fun i => match i with | 5 => some ([(9, (.int .i64))], [9, 17, 18, 19, 20, 21, 22, 23, 24, 25, 26, 27, 28, 29, 30, 31, 32, 33, 34, 35, 36, 37, 38]) | _ => none, head := fun i => match i with | 3 => some ([], [0, 1, 2, 3, 4, 5, 6, 7, 8, 9, 10, 11, 12, 13, 14, 15, 16, 17], [18, 19]) | 5 => some ([], [0, 1, 2, 3, 4, 5, 6, 7, 8, 9, 10, 11], [12, 13]) | 6 => some ([4, 5, 6, 7], [0, 1, 2, 3, 8, 9, 10, 11, 12, 13, 14, 15, 16, 17, 18, 19, 20], [21, 22, 23]) | _ => none, rng := fun i => match i with | _ => [] }
theorem ok_slices_siftDownOrdered_uint32 {data0 : Option Addr} {data0l data0c : Nat} {lo1 : Int} {hi2 : Int} {first3 : Int} {R : Ending → World → Prop} {w : World} (h : V_slices_siftDownOrdered_uint32 data0 data0l data0c lo1 hi2 first3 R w) : Calls P F.«slices_siftDownOrdered_uint32» ⟨[.slice data0 data0l data0c, .int .i64 lo1, .int .i64 hi2, .int .i64 first3]⟩ w R :=
  calls_of_vc tabOk bdOk mixed (fn := Tryz.f180) (c := bodyOf Tryz.f180) (pl := plan_slices_siftDownOrdered_uint32) Tryz.func180 (by kernel_rfl) (Nat.le_of_ble_eq_true (by kernel_rfl)) (by kernel_rfl)
    (Eq.mp (show V_slices_siftDownOrdered_uint32 data0 data0l data0c lo1 hi2 first3 R w = vcFun P Tb Bd plan_slices_siftDownOrdered_uint32 (raw Tryz.f180.ntmps) Tryz.f180.results.toList (bodyOf Tryz.f180) [.slice data0 data0l data0c, .int .i64 lo1, .int .i64 hi2, .int .i64 first3] R w by kernel_rfl) h)

def V_slices_nextPowerOfTwo (length0 : Int) (R : Ending → World → Prop) (w : World) : Prop :=
 Calls P F.«math_bits_Len» ⟨[.int .u64 (IntKind.wrap .u64 length0)]⟩ w fun e5 w5 => ∃ n5 : Int, e5 = .returned (.int .i64 n5) ∧
 0 ≤ n5 ∧
 R (.returned (.int .u64 (IntKind.wrap .u64 (1 * 2 ^ (min n5.toNat (IntKind.bits .u64)))))) w5
def plan_slices_nextPowerOfTwo : Plan := { loops := fun i => match i with | _ => ([], []), cuts := fun i => match i with | _ => none, head := fun i => match i with | _ => none, rng := fun i => match i with | _ => [] }
theorem ok_slices_nextPowerOfTwo {length0 : Int} {R : Ending → World → Prop} {w : World} (h : V_slices_nextPowerOfTwo length0 R w) : Calls P F.«slices_nextPowerOfTwo» ⟨[.int .i64 length0]⟩ w R :=
  calls_of_vc tabOk bdOk mixed (fn := Tryz.f181) (c := bodyOf Tryz.f181) (pl := plan_slices_nextPowerOfTwo) Tryz.func181 (by kernel_rfl) (Nat.le_of_ble_eq_true (by kernel_rfl)) (by kernel_rfl)
    (Eq.mp (show V_slices_nextPowerOfTwo length0 R w = vcFun P Tb Bd plan_slices_nextPowerOfTwo (raw Tryz.f181.ntmps) Tryz.f181.results.toList (bodyOf Tryz.f181) [.int .i64 length0] R w by kernel_rfl) h)

def V_slices_xorshift_Next (r0 : Option Addr) (R : Ending → World → Prop) (w : World) : Prop :=
 ptrW r0 fun a4 =>
 ∃ n5 : Int, w.cell? a4 = some (.int .u64 n5) ∧
 ptrW r0 fun a7 =>
 ∃ n8 : Int, w.cell? a7 = some (.int .u64 n8) ∧
 0 ≤ (13 : Int) ∧
 ptrW r0 fun a11 =>
 ∀ wd1, Drew w wd1 →
 (∃ old, wd1.cell? (a11.add 0) = some old) ∧ wd1.frozen? (a11.add 0) = false ∧
 letW (wd1.setCell (a11.add 0) (.int .u64 (bits .xor .u64 n5 (IntKind.wrap .u64 (n8 * 2 ^ (min (13 : Int).toNat (IntKind.bits .u64))))))) fun u0 =>
 ptrW r0 fun a13 =>
 ∃ n14 : Int, u0.cell? a13 = some (.int .u64 n14) ∧
 ptrW r0 fun a16 =>
 ∃ n17 : Int, u0.cell? a16 = some (.int .u64 n17) ∧
 0 ≤ (7 : Int) ∧
 ptrW r0 fun a20 =>
 ∀ wd2, Drew u0 wd2 →
 (∃ old, wd2.cell? (a20.add 0) = some old) ∧ wd2.frozen? (a20.add 0) = false ∧
 letW (wd2.setCell (a20.add 0) (.int .u64 (bits .xor .u64 n14 (Int.fdiv n17 (2 ^ (min (7 : Int).toNat (IntKind.bits .u64))))))) fun u0_1 =>
 ptrW r0 fun a22 =>
 ∃ n23 : Int, u0_1.cell? a22 = some (.int .u64 n23) ∧
 ptrW r0 fun a25 =>
 ∃ n26 : Int, u0_1.cell? a25 = some (.int .u64 n26) ∧
 0 ≤ (17 : Int) ∧
 ptrW r0 fun a29 =>
 ∀ wd3, Drew u0_1 wd3 →
 (∃ old, wd3.cell? (a29.add 0) = some old) ∧ wd3.frozen? (a29.add 0) = false ∧
 letW (wd3.setCell (a29.add 0) (.int .u64 (bits .xor .u64 n23 (IntKind.wrap .u64 (n26 * 2 ^ (min (17 : Int).toNat (IntKind.bits .u64))))))) fun u0_2 =>
 ptrW r0 fun a31 =>
 ∃ n32 : Int, u0_2.cell? a31 = some (.int .u64 n32) ∧
 R (.returned (.int .u64 n32)) u0_2
def plan_slices_xorshift_Next : Plan := { loops := fun i => match i with | _ => ([], []), cuts := fun i => match i with | _ => none, head := fun i => match i with | 1 => some ([], [0, 1, 2, 3, 4, 5, 6, 7, 8], [9]) | 2 => some ([], [0, 1, 2, 3, 4, 5, 6, 7, 8], [9]) | 3 => some ([], [0, 1, 2, 3, 4, 5, 6, 7, 8], [9]) | _ => none, rng := fun i => match i with | _ => [] }
theorem ok_slices_xorshift_Next {r0 : Option Addr} {R : Ending → World → Prop} {w : World} (h : V_slices_xorshift_Next r0 R w) : Calls P F.«slices_xorshift_Next» ⟨[.pointer r0]⟩ w R :=
  calls_of_vc tabOk bdOk mixed (fn := Tryz.f182) (c := bodyOf Tryz.f182) (pl := plan_slices_xorshift_Next) Tryz.func182 (by kernel_rfl) (Nat.le_of_ble_eq_true (by kernel_rfl)) (by kernel_rfl)
    (Eq.mp (show V_slices_xorshift_Next r0 R w = vcFun P Tb Bd plan_slices_xorshift_Next (raw Tryz.f182.ntmps) Tryz.f182.results.toList (bodyOf Tryz.f182) [.pointer r0] R w by kernel_rfl) h)

def V_slices_medianAdjacentOrdered_uint32 (data0 : Option Addr) (data0l data0c : Nat) (a1 : Int) (swaps2 : Option Addr) (R : Ending → World → Prop) (w : World) : Prop :=
 Calls P F.«slices_medianOrdered_uint32» ⟨[.slice data0 data0l data0c, .int .i64 (IntKind.wrap .i64 (a1 - 1)), .int .i64 a1, .int .i64 (IntKind.wrap .i64 (a1 + 1)), .pointer swaps2]⟩ w fun e14 w14 => ∃ n14 : Int, e14 = .returned (.int .i64 n14) ∧
 R (.returned (.int .i64 n14)) w14
def plan_slices_medianAdjacentOrdered_uint32 : Plan := { loops := fun i => match i with | _ => ([], []), cuts := fun i => match i with | _ => none, head := fun i => match i with | _ => none, rng := fun i => match i with | _ => [] }
theorem ok_slices_medianAdjacentOrdered_uint32 {data0 : Option Addr} {data0l data0c : Nat} {a1 : Int} {swaps2 : Option Addr} {R : Ending → World → Prop} {w : World} (h : V_slices_medianAdjacentOrdered_uint32 data0 data0l data0c a1 swaps2 R w) : Calls P F.«slices_medianAdjacentOrdered_uint32» ⟨[.slice data0 data0l data0c, .int .i64 a1, .pointer swaps2]⟩ w R :=
  calls_of_vc tabOk bdOk mixed (fn := Tryz.f183) (c := bodyOf Tryz.f183) (pl := plan_slices_medianAdjacentOrdered_uint32) Tryz.func183 (by kernel_rfl) (Nat.le_of_ble_eq_true (by kernel_rfl)) (by kernel_rfl)
    (Eq.mp (show V_slices_medianAdjacentOrdered_uint32 data0 data0l data0c a1 swaps2 R w = vcFun P Tb Bd plan_slices_medianAdjacentOrdered_uint32 (raw Tryz.f183.ntmps) Tryz.f183.results.toList (bodyOf Tryz.f183) [.slice data0 data0l data0c, .int .i64 a1, .pointer swaps2] R w by kernel_rfl) h)

def V_slices_medianOrdered_uint32 (data0 : Option Addr) (data0l data0c : Nat) (a1 : Int) (b2 : Int) (c3 : Int) (swaps4 : Option Addr) (R : Ending → World → Prop) (w : World) : Prop :=
 Calls P F.«slices_order2Ordered_uint32» ⟨[.slice data0 data0l data0c, .int .i64 a1, .int .i64 b2, .pointer swaps4]⟩ w fun e16 w16 => ∃ n16_a : Int, ∃ n16_b : Int, e16 = .returned (.tuple ⟨[.int .i64 n16_a, .int .i64 n16_b]⟩) ∧
 Calls P F.«slices_order2Ordered_uint32» ⟨[.slice data0 data0l data0c, .int .i64 n16_b, .int .i64 c3, .pointer swaps4]⟩ w16 fun e24 w24 => ∃ n24_a : Int, ∃ n24_b : Int, e24 = .returned (.tuple ⟨[.int .i64 n24_a, .int .i64 n24_b]⟩) ∧
 Calls P F.«slices_order2Ordered_uint32» ⟨[.slice data0 data0l data0c, .int .i64 n16_a, .int .i64 n24_a, .pointer swaps4]⟩ w24 fun e32 w32 => ∃ n32_a : Int, ∃ n32_b : Int, e32 = .returned (.tuple ⟨[.int .i64 n32_a, .int .i64 n32_b]⟩) ∧
 R (.returned (.int .i64 n32_b)) w32
def plan_slices_medianOrdered_uint32 : Plan := { loops := fun i => match i with | _ => ([], []), cuts := fun i => match i with | _ => none, head := fun i => match i with | _ => none, rng := fun i => match i with | _ => [] }
theorem ok_slices_medianOrdered_uint32 {data0 : Option Addr} {data0l data0c : Nat} {a1 : Int} {b2 : Int} {c3 : Int} {swaps4 : Option Addr} {R : Ending → World → Prop} {w : World} (h : V_slices_medianOrdered_uint32 data0 data0l data0c a1 b2 c3 swaps4 R w) : Calls P F.«slices_medianOrdered_uint32» ⟨[.slice data0 data0l data0c, .int .i64 a1, .int .i64 b2, .int .i64 c3, .pointer swaps4]⟩ w R :=
  calls_of_vc tabOk bdOk mixed (fn := Tryz.f184) (c := bodyOf Tryz.f184) (pl := plan_slices_medianOrdered_uint32) Tryz.func184 (by kernel_rfl) (Nat.le_of_ble_eq_true (by kernel_rfl)) (by kernel_rfl)
    (Eq.mp (show V_slices_medianOrdered_uint32 data0 data0l data0c a1 b2 c3 swaps4 R w = vcFun P Tb Bd plan_slices_medianOrdered_uint32 (raw Tryz.f184.ntmps) Tryz.f184.results.toList (bodyOf Tryz.f184) [.slice data0 data0l data0c, .int .i64 a1, .int .i64 b2, .int .i64 c3, .pointer swaps4] R w by kernel_rfl) h)

def V_cmp_isNaN_uint32 (x0 : Int) (R : Ending → World → Prop) (w : World) : Prop :=
 R (.returned (.bool (x0 != x0))) w
def plan_cmp_isNaN_uint32 : Plan := { loops := fun i => match i with | _ => ([], []), cuts := fun i => match i with | _ => none, head := fun i => match i with | _ => none, rng := fun i => match i with | _ => [] }
theorem ok_cmp_isNaN_uint32 {x0 : Int} {R : Ending → World → Prop} {w : World} (h : V_cmp_isNaN_uint32 x0 R w) : Calls P F.«cmp_isNaN_uint32» ⟨[.int .u32 x0]⟩ w R :=
  calls_of_vc tabOk bdOk mixed (fn := Tryz.f185) (c := bodyOf Tryz.f185) (pl := plan_cmp_isNaN_uint32) Tryz.func185 (by kernel_rfl) (Nat.le_of_ble_eq_true (by kernel_rfl)) (by kernel_rfl)
    (Eq.mp (show V_cmp_isNaN_uint32 x0 R w = vcFun P Tb Bd plan_cmp_isNaN_uint32 (raw Tryz.f185.ntmps) Tryz.f185.results.toList (bodyOf Tryz.f185) [.int .u32 x0] R w by kernel_rfl) h)

def V_slices_order2Ordered_uint32 (data0 : Option Addr) (data0l data0c : Nat) (a1 : Int) (b2 : Int) (swaps3 : Option Addr) (R : Ending → World → Prop) (w : World) : Prop :=
 (0 ≤ b2 ∧ b2 < (data0l : Int)) ∧
 ptrW data0 fun a12 =>
 ∃ n13 : Int, w.cell? (a12.add (b2.toNat * 1)) = some (.int .u32 n13) ∧
 (0 ≤ a1 ∧ a1 < (data0l : Int)) ∧
 ptrW data0 fun a16 =>
 ∃ n17 : Int, w.cell? (a16.add (a1.toNat * 1)) = some (.int .u32 n17) ∧
 ∀ wd1, Drew w wd1 →
 Calls P F.«cmp_Less_uint32» ⟨[.int .u32 n13, .int .u32 n17]⟩ wd1 fun e18 w18 => ∃ b18 : Bool, e18 = .returned (.bool b18) ∧
 bcase b18 (
  ptrW swaps3 fun a20 =>
  ∃ n21 : Int, w18.cell? a20 = some (.int .i64 n21) ∧
  ptrW swaps3 fun a23 =>
  (∃ old, w18.cell? (a23.add 0) = some old) ∧ w18.frozen? (a23.add 0) = false ∧
  letW (w18.setCell (a23.add 0) (.int .i64 (IntKind.wrap .i64 (n21 + 1)))) fun u0 =>
  R (.returned (.tuple ⟨[.int .i64 b2, .int .i64 a1]⟩)) u0)
 (R (.returned (.tuple ⟨[.int .i64 a1, .int .i64 b2]⟩)) w18)
def plan_slices_order2Ordered_uint32 : Plan := { loops := fun i => match i with | _ => ([], []), cuts := fun i => match i with | _ => none, head := fun i => match i with | 1 => some ([], [0, 1, 2, 3, 4, 5, 6, 7], [8]) | _ => none, rng := fun i => match i with | _ => [] }
theorem ok_slices_order2Ordered_uint32 {data0 : Option Addr} {data0l data0c : Nat} {a1 : Int} {b2 : Int} {swaps3 : Option Addr} {R : Ending → World → Prop} {w : World} (h : V_slices_order2Ordered_uint32 data0 data0l data0c a1 b2 swaps3 R w) : Calls P F.«slices_order2Ordered_uint32» ⟨[.slice data0 data0l data0c, .int .i64 a1, .int .i64 b2, .pointer swaps3]⟩ w R :=
  calls_of_vc tabOk bdOk mixed (fn := Tryz.f187) (c := bodyOf Tryz.f187) (pl := plan_slices_order2Ordered_uint32) Tryz.func187 (by kernel_rfl) (Nat.le_of_ble_eq_true (by kernel_rfl)) (by kernel_rfl)
    (Eq.mp (show V_slices_order2Ordered_uint32 data0 data0l data0c a1 b2 swaps3 R w = vcFun P Tb Bd plan_slices_order2Ordered_uint32 (raw Tryz.f187.ntmps) Tryz.f187.results.toList (bodyOf Tryz.f187) [.slice data0 data0l data0c, .int .i64 a1, .int .i64 b2, .pointer swaps3] R w by kernel_rfl) h)

end Go.Proofs.YtgepmlgkeljelaaGreat.Vc
