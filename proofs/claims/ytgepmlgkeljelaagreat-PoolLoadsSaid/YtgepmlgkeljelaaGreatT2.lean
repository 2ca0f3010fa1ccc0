/- Conditions of functions, and that they are enough. Written by vcgen.py. -/
import Derived.Test.YtgepmlgkeljelaaGreatTab
set_option maxRecDepth 100000
namespace Go.Proofs.YtgepmlgkeljelaaGreat.Vc
open Go
def V_pool_Plan_Next (q0 : Option Addr) (R : Ending → World → Prop) (w : World) : Prop :=
 Calls P F.«pool_Plan_may» ⟨[.pointer q0]⟩ w fun e4 w4 => ∃ n4 : Int, e4 = .returned (.int .i64 n4) ∧
 bcase (n4 != 0) (
  R (.returned (.int .u32 0)) w4)
 (ptrW q0 fun a7 =>
  ∃ p9 : Option Addr, w4.cell? (a7.add 1) = some (.pointer p9) ∧
  Calls P F.«dedup_Table_Next» ⟨[.pointer p9]⟩ w4 fun e10 w10 => ∃ n10 : Int, e10 = .returned (.int .u32 n10) ∧
  R (.returned (.int .u32 n10)) w10)
def plan_pool_Plan_Next : Plan := { loops := fun i => match i with | _ => ([], []), cuts := fun i => match i with | _ => none, head := fun i => match i with | _ => none, rng := fun i => match i with | _ => [] }
theorem ok_pool_Plan_Next {q0 : Option Addr} {R : Ending → World → Prop} {w : World} (h : V_pool_Plan_Next q0 R w) : Calls P F.«pool_Plan_Next» ⟨[.pointer q0]⟩ w R :=
  calls_of_vc tabOk bdOk mixed (fn := Tryz.f37) (c := bodyOf Tryz.f37) (pl := plan_pool_Plan_Next) Tryz.func37 (by kernel_rfl) (Nat.le_of_ble_eq_true (by kernel_rfl)) (by kernel_rfl)
    (Eq.mp (show V_pool_Plan_Next q0 R w = vcFun P Tb Bd plan_pool_Plan_Next (raw Tryz.f37.ntmps) Tryz.f37.results.toList (bodyOf Tryz.f37) [.pointer q0] R w by kernel_rfl) h)

def V_line_Line_Acts (l0 : Option Addr) (R : Ending → World → Prop) (w : World) : Prop :=
 Calls P F.«line_Line_is» ⟨[.pointer l0]⟩ w fun e4 w4 => ∃ b4 : Bool, e4 = .returned (.bool b4) ∧
 bcase (!b4) (
  R (.returned (.int .i64 0)) w4)
 (ptrW l0 fun a7 =>
  ∃ n9 : Int, w4.cell? (a7.add 3) = some (.int .i64 n9) ∧
  R (.returned (.int .i64 n9)) w4)
def plan_line_Line_Acts : Plan := { loops := fun i => match i with | _ => ([], []), cuts := fun i => match i with | _ => none, head := fun i => match i with | _ => none, rng := fun i => match i with | _ => [] }
theorem ok_line_Line_Acts {l0 : Option Addr} {R : Ending → World → Prop} {w : World} (h : V_line_Line_Acts l0 R w) : Calls P F.«line_Line_Acts» ⟨[.pointer l0]⟩ w R :=
  calls_of_vc tabOk bdOk mixed (fn := Tryz.f39) (c := bodyOf Tryz.f39) (pl := plan_line_Line_Acts) Tryz.func39 (by kernel_rfl) (Nat.le_of_ble_eq_true (by kernel_rfl)) (by kernel_rfl)
    (Eq.mp (show V_line_Line_Acts l0 R w = vcFun P Tb Bd plan_line_Line_Acts (raw Tryz.f39.ntmps) Tryz.f39.results.toList (bodyOf Tryz.f39) [.pointer l0] R w by kernel_rfl) h)

def V_revertlaw17_given  (R : Ending → World → Prop) (w : World) : Prop :=
 Calls P F.«device_New» ⟨[.int .i64 256]⟩ w fun e5 w5 => ∃ p5 : Option Addr, e5 = .returned (.pointer p5) ∧
 Calls P F.«line_New» ⟨[.pointer p5, .int .i64 (-1), .slice none 0 0]⟩ w5 fun e6 w6 => ∃ p6 : Option Addr, e6 = .returned (.pointer p6) ∧
 Calls P F.«pool_Make» ⟨[.pointer p6]⟩ w6 fun e7 w7 => ∃ p7 : Option Addr, e7 = .returned (.pointer p7) ∧
 Calls P F.«pool_Pool_Begin» ⟨[.pointer p7]⟩ w7 fun e9 w9 => ∃ p9 : Option Addr, e9 = .returned (.pointer p9) ∧
 Calls P F.«strings_Repeat» ⟨[.string (bs [120]), .int .i64 64]⟩ w9 fun e10 w10 => ∃ s10 : ByteArray, e10 = .returned (.string s10) ∧
 bcase ((p7).isNone) (
  R (.returned (.tuple ⟨[.pointer none, .pointer none]⟩)) w10)
 (bcase ((p9).isNone) (
   R (.returned (.tuple ⟨[.pointer none, .pointer none]⟩)) w10)
  (((s10.size + (bs [121]).size : Nat) : Int) ≤ 9223372036854775807 ∧
   ∃ (a21 : Option Addr) (l21 c21 : Nat), ∃ w21, (Instr.buildSlice T.«l_u32» 2 ⟨[(0, .int .u32 1), (1, .int .u32 2)]⟩).run P w10 = .ok (.slice a21 l21 c21) w21 ∧
   Calls P F.«revertlaw17_puts» ⟨[.pointer p9, .string (s10 ++ (bs [121])), .slice a21 l21 c21]⟩ w21 fun e22 w22 => ∃ b22 : Bool, e22 = .returned (.bool b22) ∧
   bcase (!b22) (
    R (.returned (.tuple ⟨[.pointer none, .pointer none]⟩)) w22)
   (((s10.size + s10.size : Nat) : Int) ≤ 9223372036854775807 ∧
    ∃ (a30 : Option Addr) (l30 c30 : Nat), ∃ w30, (Instr.buildSlice T.«l_u32» 2 ⟨[(0, .int .u32 1), (1, .int .u32 1)]⟩).run P w22 = .ok (.slice a30 l30 c30) w30 ∧
    Calls P F.«revertlaw17_puts» ⟨[.pointer p9, .string (s10 ++ s10), .slice a30 l30 c30]⟩ w30 fun e31 w31 => ∃ b31 : Bool, e31 = .returned (.bool b31) ∧
    bcase (!b31) (
     R (.returned (.tuple ⟨[.pointer none, .pointer none]⟩)) w31)
    (R (.returned (.tuple ⟨[.pointer p7, .pointer p9]⟩)) w31))))
def plan_revertlaw17_given : Plan := { loops := fun i => match i with | _ => ([], []), cuts := fun i => match i with | _ => none, head := fun i => match i with | _ => none, rng := fun i => match i with | _ => [] }
theorem ok_revertlaw17_given  {R : Ending → World → Prop} {w : World} (h : V_revertlaw17_given  R w) : Calls P F.«revertlaw17_given» ⟨[]⟩ w R :=
  calls_of_vc tabOk bdOk mixed (fn := Tryz.f40) (c := bodyOf Tryz.f40) (pl := plan_revertlaw17_given) Tryz.func40 (by kernel_rfl) (Nat.le_of_ble_eq_true (by kernel_rfl)) (by kernel_rfl)
    (Eq.mp (show V_revertlaw17_given  R w = vcFun P Tb Bd plan_revertlaw17_given (raw Tryz.f40.ntmps) Tryz.f40.results.toList (bodyOf Tryz.f40) [] R w by kernel_rfl) h)

def V_revertlaw17_is (l0 : Option Addr) (l0l l0c : Nat) (want1 : Option Addr) (want1l want1c : Nat) (R : Ending → World → Prop) (w : World) : Prop :=
 Calls P F.«revertlaw17_theirs» ⟨[.slice l0 l0l l0c]⟩ w fun e6 w6 => ∃ (a6 : Option Addr) (l6 c6 : Nat), e6 = .returned (.slice a6 l6 c6) ∧
 Calls P F.«revertref17_Same» ⟨[.slice a6 l6 c6, .slice want1 want1l want1c]⟩ w6 fun e8 w8 => ∃ b8 : Bool, e8 = .returned (.bool b8) ∧
 R (.returned (.bool b8)) w8
def plan_revertlaw17_is : Plan := { loops := fun i => match i with | _ => ([], []), cuts := fun i => match i with | _ => none, head := fun i => match i with | _ => none, rng := fun i => match i with | _ => [] }
theorem ok_revertlaw17_is {l0 : Option Addr} {l0l l0c : Nat} {want1 : Option Addr} {want1l want1c : Nat} {R : Ending → World → Prop} {w : World} (h : V_revertlaw17_is l0 l0l l0c want1 want1l want1c R w) : Calls P F.«revertlaw17_is» ⟨[.slice l0 l0l l0c, .slice want1 want1l want1c]⟩ w R :=
  calls_of_vc tabOk bdOk mixed (fn := Tryz.f41) (c := bodyOf Tryz.f41) (pl := plan_revertlaw17_is) Tryz.func41 (by kernel_rfl) (Nat.le_of_ble_eq_true (by kernel_rfl)) (by kernel_rfl)
    (Eq.mp (show V_revertlaw17_is l0 l0l l0c want1 want1l want1c R w = vcFun P Tb Bd plan_revertlaw17_is (raw Tryz.f41.ntmps) Tryz.f41.results.toList (bodyOf Tryz.f41) [.slice l0 l0l l0c, .slice want1 want1l want1c] R w by kernel_rfl) h)

def V_line_Line_Device (l0 : Option Addr) (R : Ending → World → Prop) (w : World) : Prop :=
 Calls P F.«line_Line_is» ⟨[.pointer l0]⟩ w fun e4 w4 => ∃ b4 : Bool, e4 = .returned (.bool b4) ∧
 bcase (!b4) (
  R (.returned (.pointer none)) w4)
 (ptrW l0 fun a7 =>
  ∃ p9 : Option Addr, w4.cell? (a7.add 0) = some (.pointer p9) ∧
  R (.returned (.pointer p9)) w4)
def plan_line_Line_Device : Plan := { loops := fun i => match i with | _ => ([], []), cuts := fun i => match i with | _ => none, head := fun i => match i with | _ => none, rng := fun i => match i with | _ => [] }
theorem ok_line_Line_Device {l0 : Option Addr} {R : Ending → World → Prop} {w : World} (h : V_line_Line_Device l0 R w) : Calls P F.«line_Line_Device» ⟨[.pointer l0]⟩ w R :=
  calls_of_vc tabOk bdOk mixed (fn := Tryz.f42) (c := bodyOf Tryz.f42) (pl := plan_line_Line_Device) Tryz.func42 (by kernel_rfl) (Nat.le_of_ble_eq_true (by kernel_rfl)) (by kernel_rfl)
    (Eq.mp (show V_line_Line_Device l0 R w = vcFun P Tb Bd plan_line_Line_Device (raw Tryz.f42.ntmps) Tryz.f42.results.toList (bodyOf Tryz.f42) [.pointer l0] R w by kernel_rfl) h)

def V_device_Device_Blocks (d0 : Option Addr) (R : Ending → World → Prop) (w : World) : Prop :=
 bcase ((d0).isNone) (
  R (.returned (.int .i64 0)) w)
 (ptrW d0 fun a6 =>
  ∃ (a8 : Option Addr) (l8 c8 : Nat), w.cell? (a6.add 0) = some (.slice a8 l8 c8) ∧
  R (.returned (.int .i64 (l8 : Int))) w)
def plan_device_Device_Blocks : Plan := { loops := fun i => match i with | _ => ([], []), cuts := fun i => match i with | _ => none, head := fun i => match i with | _ => none, rng := fun i => match i with | _ => [] }
theorem ok_device_Device_Blocks {d0 : Option Addr} {R : Ending → World → Prop} {w : World} (h : V_device_Device_Blocks d0 R w) : Calls P F.«device_Device_Blocks» ⟨[.pointer d0]⟩ w R :=
  calls_of_vc tabOk bdOk mixed (fn := Tryz.f43) (c := bodyOf Tryz.f43) (pl := plan_device_Device_Blocks) Tryz.func43 (by kernel_rfl) (Nat.le_of_ble_eq_true (by kernel_rfl)) (by kernel_rfl)
    (Eq.mp (show V_device_Device_Blocks d0 R w = vcFun P Tb Bd plan_device_Device_Blocks (raw Tryz.f43.ntmps) Tryz.f43.results.toList (bodyOf Tryz.f43) [.pointer d0] R w by kernel_rfl) h)

def V_dedup_New  (R : Ending → World → Prop) (w : World) : Prop :=
 letW (w.alloc (.map #[] 0)) fun u0 =>
 Calls P F.«hash_New» ⟨[]⟩ u0 fun e2 w2 => ∃ p2 : Option Addr, e2 = .returned (.pointer p2) ∧
 letW (w2.alloc (.cells ⟨[.map (some w.heap.size), .pointer p2, .int .u32 1]⟩ T.«dedup_Table»)) fun u0_1 =>
 R (.returned (.pointer (some ⟨w2.heap.size, 0, none⟩))) u0_1
def plan_dedup_New : Plan := { loops := fun i => match i with | _ => ([], []), cuts := fun i => match i with | _ => none, head := fun i => match i with | _ => none, rng := fun i => match i with | _ => [] }
theorem ok_dedup_New  {R : Ending → World → Prop} {w : World} (h : V_dedup_New  R w) : Calls P F.«dedup_New» ⟨[]⟩ w R :=
  calls_of_vc tabOk bdOk mixed (fn := Tryz.f44) (c := bodyOf Tryz.f44) (pl := plan_dedup_New) Tryz.func44 (by kernel_rfl) (Nat.le_of_ble_eq_true (by kernel_rfl)) (by kernel_rfl)
    (Eq.mp (show V_dedup_New  R w = vcFun P Tb Bd plan_dedup_New (raw Tryz.f44.ntmps) Tryz.f44.results.toList (bodyOf Tryz.f44) [] R w by kernel_rfl) h)

def V_space_New (fromx0 : Int) (n1 : Int) (R : Ending → World → Prop) (w : World) : Prop :=
 bcase (decide (fromx0 < 0)) (
  R (.returned (.pointer none)) w)
 (bcase (decide (fromx0 ≥ n1)) (
   R (.returned (.pointer none)) w)
  (bcase (decide (n1 > 2048)) (
    R (.returned (.pointer none)) w)
   ((256 : Int) ≠ 0 ∧ ∃ (a22 : Option Addr) (l22 c22 : Nat), ∃ w22, (Instr.makeSlice T.«l_space_bits» (.int .i64 (IntKind.wrap .i64 ((IntKind.wrap .i64 (Int.tdiv (IntKind.wrap .i64 (n1 - 1)) 256)) + 1))) (.int .i64 (IntKind.wrap .i64 ((IntKind.wrap .i64 (Int.tdiv (IntKind.wrap .i64 (n1 - 1)) 256)) + 1)))).run P w = .ok (.slice a22 l22 c22) w22 ∧
    letW (w22.alloc (.cells ⟨[.int .i64 fromx0, .int .i64 n1, .slice a22 l22 c22]⟩ T.«space_Space»)) fun u0 =>
    R (.returned (.pointer (some ⟨w22.heap.size, 0, none⟩))) u0)))
def plan_space_New : Plan := { loops := fun i => match i with | _ => ([], []), cuts := fun i => match i with | _ => none, head := fun i => match i with | _ => none, rng := fun i => match i with | _ => [] }
theorem ok_space_New {fromx0 : Int} {n1 : Int} {R : Ending → World → Prop} {w : World} (h : V_space_New fromx0 n1 R w) : Calls P F.«space_New» ⟨[.int .i64 fromx0, .int .i64 n1]⟩ w R :=
  calls_of_vc tabOk bdOk mixed (fn := Tryz.f45) (c := bodyOf Tryz.f45) (pl := plan_space_New) Tryz.func45 (by kernel_rfl) (Nat.le_of_ble_eq_true (by kernel_rfl)) (by kernel_rfl)
    (Eq.mp (show V_space_New fromx0 n1 R w = vcFun P Tb Bd plan_space_New (raw Tryz.f45.ntmps) Tryz.f45.results.toList (bodyOf Tryz.f45) [.int .i64 fromx0, .int .i64 n1] R w by kernel_rfl) h)

def V_slices_Clone_sl_int_int (s0 : Option Addr) (s0l s0c : Nat) (R : Ending → World → Prop) (w : World) : Prop :=
 bcase s0.isNone (
  R (.returned (.slice none 0 0)) w)
 (∃ (a5 : Option Addr) (l5 c5 : Nat), ∃ w5, (Instr.buildSlice T.«l_i64» 0 ⟨[]⟩).run P w = .ok (.slice a5 l5 c5) w5 ∧
  ∃ (a7 : Option Addr) (l7 c7 : Nat), ∃ w7, (Builtin.append_ ⟨[T.«l_i64», T.«l_i64»]⟩ T.«l_i64» ⟨[.slice a5 l5 c5, .slice s0 s0l s0c]⟩).run P w5 = .ok (.slice a7 l7 c7) w7 ∧
  R (.returned (.slice a7 l7 c7)) w7)
def plan_slices_Clone_sl_int_int : Plan := { loops := fun i => match i with | _ => ([], []), cuts := fun i => match i with | _ => none, head := fun i => match i with | _ => none, rng := fun i => match i with | _ => [] }
theorem ok_slices_Clone_sl_int_int {s0 : Option Addr} {s0l s0c : Nat} {R : Ending → World → Prop} {w : World} (h : V_slices_Clone_sl_int_int s0 s0l s0c R w) : Calls P F.«slices_Clone_sl_int_int» ⟨[.slice s0 s0l s0c]⟩ w R :=
  calls_of_vc tabOk bdOk mixed (fn := Tryz.f46) (c := bodyOf Tryz.f46) (pl := plan_slices_Clone_sl_int_int) Tryz.func46 (by kernel_rfl) (Nat.le_of_ble_eq_true (by kernel_rfl)) (by kernel_rfl)
    (Eq.mp (show V_slices_Clone_sl_int_int s0 s0l s0c R w = vcFun P Tb Bd plan_slices_Clone_sl_int_int (raw Tryz.f46.ntmps) Tryz.f46.results.toList (bodyOf Tryz.f46) [.slice s0 s0l s0c] R w by kernel_rfl) h)

def V_pool_Pool_is (p0 : Option Addr) (R : Ending → World → Prop) (w : World) : Prop :=
 bcase (!(p0).isNone) (
  ptrW p0 fun a7 =>
  ∃ p9 : Option Addr, w.cell? (a7.add 1) = some (.pointer p9) ∧
  R (.returned (.bool (!(p9).isNone))) w)
 (R (.returned (.bool false)) w)
def plan_pool_Pool_is : Plan := { loops := fun i => match i with | _ => ([], []), cuts := fun i => match i with | _ => none, head := fun i => match i with | _ => none, rng := fun i => match i with | _ => [] }
theorem ok_pool_Pool_is {p0 : Option Addr} {R : Ending → World → Prop} {w : World} (h : V_pool_Pool_is p0 R w) : Calls P F.«pool_Pool_is» ⟨[.pointer p0]⟩ w R :=
  calls_of_vc tabOk bdOk mixed (fn := Tryz.f47) (c := bodyOf Tryz.f47) (pl := plan_pool_Pool_is) Tryz.func47 (by kernel_rfl) (Nat.le_of_ble_eq_true (by kernel_rfl)) (by kernel_rfl)
    (Eq.mp (show V_pool_Pool_is p0 R w = vcFun P Tb Bd plan_pool_Pool_is (raw Tryz.f47.ntmps) Tryz.f47.results.toList (bodyOf Tryz.f47) [.pointer p0] R w by kernel_rfl) h)

def V_dedup_Table_Copy (t0 : Option Addr) (R : Ending → World → Prop) (w : World) : Prop :=
 letW (w.alloc (.cells ⟨[.pointer t0]⟩ T.«p_dedup_Table»)) fun u0 =>
 ∃ p5 : Option Addr, u0.cell? ⟨w.heap.size, 0, none⟩ = some (.pointer p5) ∧
 Calls P F.«dedup_Table_is» ⟨[.pointer p5]⟩ u0 fun e6 w6 => ∃ b6 : Bool, e6 = .returned (.bool b6) ∧
 bcase (!b6) (
  R (.returned (.pointer none)) w6)
 (Calls P F.«dedup_New» ⟨[]⟩ w6 fun e8 w8 => ∃ p8 : Option Addr, e8 = .returned (.pointer p8) ∧
  letW (w8.alloc (.cells ⟨[(.pointer none)]⟩ T.«p_dedup_Table»)) fun u0_1 =>
  (∃ old, u0_1.cell? ((⟨w8.heap.size, 0, none⟩ : Addr).add 0) = some old) ∧ u0_1.frozen? ((⟨w8.heap.size, 0, none⟩ : Addr).add 0) = false ∧
  letW (u0_1.setCell ((⟨w8.heap.size, 0, none⟩ : Addr).add 0) (.pointer p8)) fun u0_2 =>
  ∃ p9 : Option Addr, u0_2.cell? ⟨w.heap.size, 0, none⟩ = some (.pointer p9) ∧
  Calls P F.«dedup_Table_All» ⟨[.pointer p9]⟩ u0_2 fun e10 w10 => ∃ v10 : Value, e10 = .returned (v10) ∧
  onFunc v10 fun gf first caps => bW (Bd gf) (∀ (y : Value) (rec : LoopState → Option Code → Obj),
   (∀ R' : Ending → World → Prop, ∀ (n11 : Int), ∀ (wr : World), wr.heap[(w10.heap.size + 1)]? = some (rec .ready none) →
    (wr.heap[(w10.heap.size + 1)]? = some (rec .ready none) ∧
     letW (wr.putObj (w10.heap.size + 1) (rec .busy none)) fun u0_3 =>
     ∃ p12 : Option Addr, u0_3.cell? ⟨w8.heap.size, 0, none⟩ = some (.pointer p12) ∧
     ∃ p14 : Option Addr, u0_3.cell? ⟨w.heap.size, 0, none⟩ = some (.pointer p14) ∧
     ptrW p14 fun a15 =>
     ∃ m17 : Option Nat, u0_3.cell? (a15.add 0) = some (.map m17) ∧
     ∃ es19 : List MapEntry, mapAt u0_3 m17 es19 ∧ keysLike (.int .u32 n11) es19 ∧
     ∃ s19_0 : ByteArray, ∃ n19_1 : Int, ∃ n19_2 : Int, ∃ ok19 : Bool, mfind (.int .u32 n11) es19 = (if ok19 then some (.agg ⟨[.string s19_0, .int .i64 n19_1, .int .i64 n19_2]⟩) else none) ∧ (ok19 = false → (.agg ⟨[.string s19_0, .int .i64 n19_1, .int .i64 n19_2]⟩ : Value) = .agg ⟨[.string (bs []), .int .i64 0, .int .i64 0]⟩) ∧
     ∀ wd6, Drew u0_3 wd6 →
     Calls P F.«dedup_Table_put» ⟨[.pointer p12, .int .u32 n11, .agg ⟨[.string s19_0, .int .i64 n19_1, .int .i64 n19_2]⟩]⟩ wd6 fun e20 w20 => e20 = .returned (.tuple ⟨[]⟩) ∧
     w20.heap[(w10.heap.size + 1)]? = some (rec .busy none) ∧ R' (.returned (.bool true)) (w20.putObj (w10.heap.size + 1) (rec .ready none))) → callV P Bd y [.int .u32 n11] wr R') →
   Calls P gf ⟨first ++ [y] ++ caps⟩ ((w10.alloc (.deferred (some []))).alloc (rec .ready none)) fun ef wf => (∃ v, ef = .returned v) ∧
   (((∃ stj, stj ≠ .busy ∧ wf.heap[(w10.heap.size + 1)]? = some (rec stj none) ∧
      letW (wf.putObj (w10.heap.size + 1) (rec .exhausted none)) fun u0_4 =>
      ∃ p21 : Option Addr, u0_4.cell? ⟨w8.heap.size, 0, none⟩ = some (.pointer p21) ∧
      ∃ p22 : Option Addr, u0_4.cell? ⟨w.heap.size, 0, none⟩ = some (.pointer p22) ∧
      ptrW p22 fun a23 =>
      ∃ n25 : Int, u0_4.cell? (a23.add 2) = some (.int .u32 n25) ∧
      ptrW p21 fun a26 =>
      ∀ wd7, Drew u0_4 wd7 →
      (∃ old, wd7.cell? ((a26.add 2).add 0) = some old) ∧ wd7.frozen? ((a26.add 2).add 0) = false ∧
      letW (wd7.setCell ((a26.add 2).add 0) (.int .u32 n25)) fun u0_5 =>
      ∃ p28 : Option Addr, u0_5.cell? ⟨w8.heap.size, 0, none⟩ = some (.pointer p28) ∧
      u0_5.heap[w10.heap.size]? = some (.deferred (some [])) ∧
      letW (u0_5.putObj w10.heap.size (.deferred none)) fun u0_6 =>
      R (.returned (.pointer p28)) u0_6) ∨ (∃ stj, stj ≠ .busy ∧ wf.heap[(w10.heap.size + 1)]? = some (rec stj (some .ret)) ∧
      letW (wf.putObj (w10.heap.size + 1) (rec .exhausted (some .ret))) fun u0_7 =>
      u0_7.heap[w10.heap.size]? = some (.deferred (some [])) ∧
      letW (u0_7.putObj w10.heap.size (.deferred none)) fun u0_8 =>
      R (.returned (.pointer none)) u0_8)))))
def plan_dedup_Table_Copy : Plan := { loops := fun i => match i with | _ => ([], []), cuts := fun i => match i with | _ => none, head := fun i => match i with | 6 => some ([], [0, 1, 2, 3, 4, 5, 6, 7], [8]) | 7 => some ([], [0, 1, 2, 3, 4, 5, 6], [7]) | _ => none, rng := fun i => match i with | 6 => [(.int .u32)] | _ => [] }
theorem ok_dedup_Table_Copy {t0 : Option Addr} {R : Ending → World → Prop} {w : World} (h : V_dedup_Table_Copy t0 R w) : Calls P F.«dedup_Table_Copy» ⟨[.pointer t0]⟩ w R :=
  calls_of_vc tabOk bdOk mixed (fn := Tryz.f48) (c := bodyOf Tryz.f48) (pl := plan_dedup_Table_Copy) Tryz.func48 (by kernel_rfl) (Nat.le_of_ble_eq_true (by kernel_rfl)) (by kernel_rfl)
    (Eq.mp (show V_dedup_Table_Copy t0 R w = vcFun P Tb Bd plan_dedup_Table_Copy (raw Tryz.f48.ntmps) Tryz.f48.results.toList (bodyOf Tryz.f48) [.pointer t0] R w by kernel_rfl) h)

def V_space_Space_Copy (s0 : Option Addr) (R : Ending → World → Prop) (w : World) : Prop :=
 Calls P F.«space_Space_is» ⟨[.pointer s0]⟩ w fun e4 w4 => ∃ b4 : Bool, e4 = .returned (.bool b4) ∧
 bcase (!b4) (
  R (.returned (.pointer none)) w4)
 (∀ wd3, Drew w4 wd3 →
  ptrW s0 fun a7 =>
  ∃ n9 : Int, wd3.cell? (a7.add 0) = some (.int .i64 n9) ∧
  ptrW s0 fun a11 =>
  ∃ n13 : Int, wd3.cell? (a11.add 1) = some (.int .i64 n13) ∧
  ptrW s0 fun a15 =>
  ∃ (a17 : Option Addr) (l17 c17 : Nat), wd3.cell? (a15.add 2) = some (.slice a17 l17 c17) ∧
  Calls P F.«slices_Clone_sl_space_bits_space_bits» ⟨[.slice a17 l17 c17]⟩ wd3 fun e18 w18 => ∃ (a18 : Option Addr) (l18 c18 : Nat), e18 = .returned (.slice a18 l18 c18) ∧
  (∃ n13_1 : Int, w18.cell? (a11.add 1) = some (.int .i64 n13_1) ∧
   (.int .i64 n13_1 : Value) = (.int .i64 n13)) ∧
  (∃ n9_1 : Int, w18.cell? (a7.add 0) = some (.int .i64 n9_1) ∧
   (.int .i64 n9_1 : Value) = (.int .i64 n9)) ∧
  letW (w18.alloc (.cells ⟨[.int .i64 n9, .int .i64 n13, .slice a18 l18 c18]⟩ T.«space_Space»)) fun u0 =>
  R (.returned (.pointer (some ⟨w18.heap.size, 0, none⟩))) u0)
def plan_space_Space_Copy : Plan := { loops := fun i => match i with | _ => ([], []), cuts := fun i => match i with | _ => none, head := fun i => match i with | _ => none, rng := fun i => match i with | _ => [], stg := fun i => match i with | 3 => some ((.q 0 (.q 1 (.q 2 (.q 3 (.q 4 (.q 5 (.q 6 (.q 7 (.q 8 (.q 9 (.q 10 (.q 11 (.w 12 [7, 3] (.q 13 (.w 14 [] (.q 15 .done)))))))))))))))), [0, 1, 3, 7, 0, 16, 48, 112, 0, 256, 768, 1792, 3840, 8191, 16383, 32767]) | _ => none }
theorem ok_space_Space_Copy {s0 : Option Addr} {R : Ending → World → Prop} {w : World} (h : V_space_Space_Copy s0 R w) : Calls P F.«space_Space_Copy» ⟨[.pointer s0]⟩ w R :=
  calls_of_vc tabOk bdOk mixed (fn := Tryz.f49) (c := bodyOf Tryz.f49) (pl := plan_space_Space_Copy) Tryz.func49 (by kernel_rfl) (Nat.le_of_ble_eq_true (by kernel_rfl)) (by kernel_rfl)
    (Eq.mp (show V_space_Space_Copy s0 R w = vcFun P Tb Bd plan_space_Space_Copy (raw Tryz.f49.ntmps) Tryz.f49.results.toList (bodyOf Tryz.f49) [.pointer s0] R w by kernel_rfl) h)

def V_pool_Plan_Release (q0 : Option Addr) (ids1 : Option Addr) (ids1l ids1c : Nat) (R : Ending → World → Prop) (w : World) : Prop :=
 letW (w.alloc (.cells ⟨[.pointer q0]⟩ T.«p_pool_Plan»)) fun u0 =>
 ∃ p5 : Option Addr, u0.cell? ⟨w.heap.size, 0, none⟩ = some (.pointer p5) ∧
 Calls P F.«pool_Plan_each» ⟨[.pointer p5, .slice ids1 ids1l ids1c, .func (.func F.«pool_Plan_Release_1») ⟨[]⟩ ⟨[.pointer (some ⟨w.heap.size, 0, none⟩)]⟩]⟩ u0 fun e8 w8 => ∃ n8 : Int, e8 = .returned (.int .i64 n8) ∧
 R (.returned (.int .i64 n8)) w8
def plan_pool_Plan_Release : Plan := { loops := fun i => match i with | _ => ([], []), cuts := fun i => match i with | _ => none, head := fun i => match i with | _ => none, rng := fun i => match i with | _ => [] }
theorem ok_pool_Plan_Release {q0 : Option Addr} {ids1 : Option Addr} {ids1l ids1c : Nat} {R : Ending → World → Prop} {w : World} (h : V_pool_Plan_Release q0 ids1 ids1l ids1c R w) : Calls P F.«pool_Plan_Release» ⟨[.pointer q0, .slice ids1 ids1l ids1c]⟩ w R :=
  calls_of_vc tabOk bdOk mixed (fn := Tryz.f50) (c := bodyOf Tryz.f50) (pl := plan_pool_Plan_Release) Tryz.func50 (by kernel_rfl) (Nat.le_of_ble_eq_true (by kernel_rfl)) (by kernel_rfl)
    (Eq.mp (show V_pool_Plan_Release q0 ids1 ids1l ids1c R w = vcFun P Tb Bd plan_pool_Plan_Release (raw Tryz.f50.ntmps) Tryz.f50.results.toList (bodyOf Tryz.f50) [.pointer q0, .slice ids1 ids1l ids1c] R w by kernel_rfl) h)

def V_pool_Plan_Write (q0 : Option Addr) (R : Ending → World → Prop) (w : World) : Prop :=
 letW (w.alloc (.cells ⟨[.pointer q0]⟩ T.«p_pool_Plan»)) fun u0 =>
 ∃ p3 : Option Addr, u0.cell? ⟨w.heap.size, 0, none⟩ = some (.pointer p3) ∧
 Calls P F.«pool_Plan_try» ⟨[.pointer p3, .func (.func F.«pool_Plan_Write_1») ⟨[]⟩ ⟨[.pointer (some ⟨w.heap.size, 0, none⟩)]⟩]⟩ u0 fun e5 w5 => ∃ n5 : Int, e5 = .returned (.int .i64 n5) ∧
 R (.returned (.int .i64 n5)) w5
def plan_pool_Plan_Write : Plan := { loops := fun i => match i with | _ => ([], []), cuts := fun i => match i with | _ => none, head := fun i => match i with | _ => none, rng := fun i => match i with | _ => [] }
theorem ok_pool_Plan_Write {q0 : Option Addr} {R : Ending → World → Prop} {w : World} (h : V_pool_Plan_Write q0 R w) : Calls P F.«pool_Plan_Write» ⟨[.pointer q0]⟩ w R :=
  calls_of_vc tabOk bdOk mixed (fn := Tryz.f51) (c := bodyOf Tryz.f51) (pl := plan_pool_Plan_Write) Tryz.func51 (by kernel_rfl) (Nat.le_of_ble_eq_true (by kernel_rfl)) (by kernel_rfl)
    (Eq.mp (show V_pool_Plan_Write q0 R w = vcFun P Tb Bd plan_pool_Plan_Write (raw Tryz.f51.ntmps) Tryz.f51.results.toList (bodyOf Tryz.f51) [.pointer q0] R w by kernel_rfl) h)

def V_pool_Plan_may (q0 : Option Addr) (R : Ending → World → Prop) (w : World) : Prop :=
 bcase ((q0).isNone) (
  R (.returned (.int .i64 1)) w)
 (ptrW q0 fun a8 =>
  ∃ p10 : Option Addr, w.cell? (a8.add 0) = some (.pointer p10) ∧
  bcase ((p10).isNone) (
   R (.returned (.int .i64 1)) w)
  (ptrW q0 fun a15 =>
   ∃ b17 : Bool, w.cell? (a15.add 3) = some (.bool b17) ∧
   bcase b17 (
    R (.returned (.int .i64 17)) w)
   (R (.returned (.int .i64 0)) w)))
def plan_pool_Plan_may : Plan := { loops := fun i => match i with | _ => ([], []), cuts := fun i => match i with | _ => none, head := fun i => match i with | _ => none, rng := fun i => match i with | _ => [] }
theorem ok_pool_Plan_may {q0 : Option Addr} {R : Ending → World → Prop} {w : World} (h : V_pool_Plan_may q0 R w) : Calls P F.«pool_Plan_may» ⟨[.pointer q0]⟩ w R :=
  calls_of_vc tabOk bdOk mixed (fn := Tryz.f52) (c := bodyOf Tryz.f52) (pl := plan_pool_Plan_may) Tryz.func52 (by kernel_rfl) (Nat.le_of_ble_eq_true (by kernel_rfl)) (by kernel_rfl)
    (Eq.mp (show V_pool_Plan_may q0 R w = vcFun P Tb Bd plan_pool_Plan_may (raw Tryz.f52.ntmps) Tryz.f52.results.toList (bodyOf Tryz.f52) [.pointer q0] R w by kernel_rfl) h)

def V_dedup_Table_All (t0 : Option Addr) (R : Ending → World → Prop) (w : World) : Prop :=
 letW (w.alloc (.cells ⟨[.pointer t0]⟩ T.«p_dedup_Table»)) fun u0 =>
 R (.returned (.func (.func F.«dedup_Table_All_1») ⟨[]⟩ ⟨[.pointer (some ⟨w.heap.size, 0, none⟩)]⟩)) u0
def plan_dedup_Table_All : Plan := { loops := fun i => match i with | _ => ([], []), cuts := fun i => match i with | _ => none, head := fun i => match i with | _ => none, rng := fun i => match i with | _ => [] }
theorem ok_dedup_Table_All {t0 : Option Addr} {R : Ending → World → Prop} {w : World} (h : V_dedup_Table_All t0 R w) : Calls P F.«dedup_Table_All» ⟨[.pointer t0]⟩ w R :=
  calls_of_vc tabOk bdOk mixed (fn := Tryz.f53) (c := bodyOf Tryz.f53) (pl := plan_dedup_Table_All) Tryz.func53 (by kernel_rfl) (Nat.le_of_ble_eq_true (by kernel_rfl)) (by kernel_rfl)
    (Eq.mp (show V_dedup_Table_All t0 R w = vcFun P Tb Bd plan_dedup_Table_All (raw Tryz.f53.ntmps) Tryz.f53.results.toList (bodyOf Tryz.f53) [.pointer t0] R w by kernel_rfl) h)

def V_dedup_Table_Get (t0 : Option Addr) (id1 : Int) (R : Ending → World → Prop) (w : World) : Prop :=
 Calls P F.«dedup_Table_find» ⟨[.pointer t0, .int .u32 id1]⟩ w fun e13 w13 => ∃ s13_a_0 : ByteArray, ∃ n13_a_1 : Int, ∃ n13_a_2 : Int, ∃ n13_b : Int, e13 = .returned (.tuple ⟨[.agg ⟨[.string s13_a_0, .int .i64 n13_a_1, .int .i64 n13_a_2]⟩, .int .i64 n13_b]⟩) ∧
 letW (w13.alloc (.cells ⟨[(.string (bs [])), (.int .i64 0), (.int .i64 0)]⟩ T.«dedup_chunk»)) fun u0 =>
 (∃ old, u0.cell? ((⟨w13.heap.size, 0, none⟩ : Addr).add 0) = some old) ∧ u0.frozen? ((⟨w13.heap.size, 0, none⟩ : Addr).add 0) = false ∧
 letW (u0.setCell ((⟨w13.heap.size, 0, none⟩ : Addr).add 0) (.string s13_a_0)) fun u0_1 =>
 (∃ old, u0_1.cell? ((⟨w13.heap.size, 0, none⟩ : Addr).add 1) = some old) ∧ u0_1.frozen? ((⟨w13.heap.size, 0, none⟩ : Addr).add 1) = false ∧
 letW (u0_1.setCell ((⟨w13.heap.size, 0, none⟩ : Addr).add 1) (.int .i64 n13_a_1)) fun u0_2 =>
 (∃ old, u0_2.cell? ((⟨w13.heap.size, 0, none⟩ : Addr).add 2) = some old) ∧ u0_2.frozen? ((⟨w13.heap.size, 0, none⟩ : Addr).add 2) = false ∧
 letW (u0_2.setCell ((⟨w13.heap.size, 0, none⟩ : Addr).add 2) (.int .i64 n13_a_2)) fun u0_3 =>
 ∃ s17 : ByteArray, u0_3.cell? ((⟨w13.heap.size, 0, none⟩ : Addr).add 0) = some (.string s17) ∧
 ∃ n19 : Int, u0_3.cell? ((⟨w13.heap.size, 0, none⟩ : Addr).add 1) = some (.int .i64 n19) ∧
 ∃ n21 : Int, u0_3.cell? ((⟨w13.heap.size, 0, none⟩ : Addr).add 2) = some (.int .i64 n21) ∧
 ∀ wd2, Drew u0_3 wd2 →
 R (.returned (.tuple ⟨[.string s17, .int .i64 n19, .int .i64 n21, .bool (n13_b == 0)]⟩)) wd2
def plan_dedup_Table_Get : Plan := { loops := fun i => match i with | _ => ([], []), cuts := fun i => match i with | _ => none, head := fun i => match i with | 2 => some ([], [0, 1, 2, 3, 4, 5, 6, 7, 8, 9, 10, 11], []) | _ => none, rng := fun i => match i with | _ => [] }
theorem ok_dedup_Table_Get {t0 : Option Addr} {id1 : Int} {R : Ending → World → Prop} {w : World} (h : V_dedup_Table_Get t0 id1 R w) : Calls P F.«dedup_Table_Get» ⟨[.pointer t0, .int .u32 id1]⟩ w R :=
  calls_of_vc tabOk bdOk mixed (fn := Tryz.f54) (c := bodyOf Tryz.f54) (pl := plan_dedup_Table_Get) Tryz.func54 (by kernel_rfl) (Nat.le_of_ble_eq_true (by kernel_rfl)) (by kernel_rfl)
    (Eq.mp (show V_dedup_Table_Get t0 id1 R w = vcFun P Tb Bd plan_dedup_Table_Get (raw Tryz.f54.ntmps) Tryz.f54.results.toList (bodyOf Tryz.f54) [.pointer t0, .int .u32 id1] R w by kernel_rfl) h)

def V_space_Space_Use (s0 : Option Addr) (atx1 : Int) (R : Ending → World → Prop) (w : World) : Prop :=
 Calls P F.«space_Space_rules» ⟨[.pointer s0, .int .i64 atx1]⟩ w fun e10 w10 => ∃ n10 : Int, e10 = .returned (.int .i64 n10) ∧
 bcase (n10 != 0) (
  R (.returned (.int .i64 n10)) w10)
 (Calls P F.«space_Space_bit» ⟨[.pointer s0, .int .i64 atx1]⟩ w10 fun e17 w17 => ∃ p17_a : Option Addr, ∃ n17_b : Int, e17 = .returned (.tuple ⟨[.pointer p17_a, .int .u64 n17_b]⟩) ∧
  ptrW p17_a fun a21 =>
  ∃ n22 : Int, w17.cell? a21 = some (.int .u64 n22) ∧
  bcase ((bits .and .u64 n22 n17_b) != 0) (
   R (.returned (.int .i64 6)) w17)
  (ptrW p17_a fun a27 =>
   ∃ n28 : Int, w17.cell? a27 = some (.int .u64 n28) ∧
   ptrW p17_a fun a31 =>
   (∃ old, w17.cell? (a31.add 0) = some old) ∧ w17.frozen? (a31.add 0) = false ∧
   letW (w17.setCell (a31.add 0) (.int .u64 (bits .or .u64 n28 n17_b))) fun u0 =>
   R (.returned (.int .i64 0)) u0))
def plan_space_Space_Use : Plan := { loops := fun i => match i with | _ => ([], []), cuts := fun i => match i with | _ => none, head := fun i => match i with | _ => none, rng := fun i => match i with | _ => [] }
theorem ok_space_Space_Use {s0 : Option Addr} {atx1 : Int} {R : Ending → World → Prop} {w : World} (h : V_space_Space_Use s0 atx1 R w) : Calls P F.«space_Space_Use» ⟨[.pointer s0, .int .i64 atx1]⟩ w R :=
  calls_of_vc tabOk bdOk mixed (fn := Tryz.f55) (c := bodyOf Tryz.f55) (pl := plan_space_Space_Use) Tryz.func55 (by kernel_rfl) (Nat.le_of_ble_eq_true (by kernel_rfl)) (by kernel_rfl)
    (Eq.mp (show V_space_Space_Use s0 atx1 R w = vcFun P Tb Bd plan_space_Space_Use (raw Tryz.f55.ntmps) Tryz.f55.results.toList (bodyOf Tryz.f55) [.pointer s0, .int .i64 atx1] R w by kernel_rfl) h)

def V_pool_chunk (t0 : Option Addr) (id1 : Int) (R : Ending → World → Prop) (w : World) : Prop :=
 letW (w.alloc (.cells ⟨[(.int .u32 0), (.int .i64 0), (.int .i64 0), (.int .i64 0)]⟩ T.«pool_Chunk»)) fun u0 =>
 Calls P F.«dedup_Table_Get» ⟨[.pointer t0, .int .u32 id1]⟩ u0 fun e13 w13 => ∃ s13_a : ByteArray, ∃ n13_b : Int, ∃ n13_c : Int, ∃ b13_d : Bool, e13 = .returned (.tuple ⟨[.string s13_a, .int .i64 n13_b, .int .i64 n13_c, .bool b13_d]⟩) ∧
 (∃ old, w13.cell? ((⟨w.heap.size, 0, none⟩ : Addr).add 0) = some old) ∧ w13.frozen? ((⟨w.heap.size, 0, none⟩ : Addr).add 0) = false ∧
 letW (w13.setCell ((⟨w.heap.size, 0, none⟩ : Addr).add 0) (.int .u32 id1)) fun u0_1 =>
 (∃ old, u0_1.cell? ((⟨w.heap.size, 0, none⟩ : Addr).add 1) = some old) ∧ u0_1.frozen? ((⟨w.heap.size, 0, none⟩ : Addr).add 1) = false ∧
 letW (u0_1.setCell ((⟨w.heap.size, 0, none⟩ : Addr).add 1) (.int .i64 n13_b)) fun u0_2 =>
 (∃ old, u0_2.cell? ((⟨w.heap.size, 0, none⟩ : Addr).add 2) = some old) ∧ u0_2.frozen? ((⟨w.heap.size, 0, none⟩ : Addr).add 2) = false ∧
 letW (u0_2.setCell ((⟨w.heap.size, 0, none⟩ : Addr).add 2) (.int .i64 n13_c)) fun u0_3 =>
 (∃ old, u0_3.cell? ((⟨w.heap.size, 0, none⟩ : Addr).add 3) = some old) ∧ u0_3.frozen? ((⟨w.heap.size, 0, none⟩ : Addr).add 3) = false ∧
 letW (u0_3.setCell ((⟨w.heap.size, 0, none⟩ : Addr).add 3) (.int .i64 (s13_a.size : Int))) fun u0_4 =>
 ∃ nr0_0 : Int, ∃ nr0_1 : Int, ∃ nr0_2 : Int, ∃ nr0_3 : Int, (u0_4.cell? ((⟨w.heap.size, 0, none⟩ : Addr).add 0) = some (.int .u32 nr0_0) ∧ u0_4.cell? ((⟨w.heap.size, 0, none⟩ : Addr).add 1) = some (.int .i64 nr0_1) ∧ u0_4.cell? ((⟨w.heap.size, 0, none⟩ : Addr).add 2) = some (.int .i64 nr0_2) ∧ u0_4.cell? ((⟨w.heap.size, 0, none⟩ : Addr).add 3) = some (.int .i64 nr0_3) ∧ True) ∧
 R (.returned (.tuple ⟨[.agg ⟨[.int .u32 nr0_0, .int .i64 nr0_1, .int .i64 nr0_2, .int .i64 nr0_3]⟩, .bool b13_d]⟩)) u0_4
def plan_pool_chunk : Plan := { loops := fun i => match i with | _ => ([], []), cuts := fun i => match i with | _ => none, head := fun i => match i with | _ => none, rng := fun i => match i with | _ => [] }
theorem ok_pool_chunk {t0 : Option Addr} {id1 : Int} {R : Ending → World → Prop} {w : World} (h : V_pool_chunk t0 id1 R w) : Calls P F.«pool_chunk» ⟨[.pointer t0, .int .u32 id1]⟩ w R :=
  calls_of_vc tabOk bdOk mixed (fn := Tryz.f56) (c := bodyOf Tryz.f56) (pl := plan_pool_chunk) Tryz.func56 (by kernel_rfl) (Nat.le_of_ble_eq_true (by kernel_rfl)) (by kernel_rfl)
    (Eq.mp (show V_pool_chunk t0 id1 R w = vcFun P Tb Bd plan_pool_chunk (raw Tryz.f56.ntmps) Tryz.f56.results.toList (bodyOf Tryz.f56) [.pointer t0, .int .u32 id1] R w by kernel_rfl) h)

def V_space_Space_Count (s0 : Option Addr) (R : Ending → World → Prop) (w : World) : Prop :=
 letW (w.alloc (.cells ⟨[(.int .i64 0)]⟩ T.«i64'»)) fun u0 =>
 (∃ old, u0.cell? ((⟨w.heap.size, 0, none⟩ : Addr).add 0) = some old) ∧ u0.frozen? ((⟨w.heap.size, 0, none⟩ : Addr).add 0) = false ∧
 letW (u0.setCell ((⟨w.heap.size, 0, none⟩ : Addr).add 0) (.int .i64 0)) fun u0_1 =>
 Calls P F.«space_Space_All» ⟨[.pointer s0]⟩ u0_1 fun e5 w5 => ∃ v5 : Value, e5 = .returned (v5) ∧
 onFunc v5 fun gf first caps => bW (Bd gf) (∀ (y : Value) (rec : LoopState → Option Code → Obj),
  (∀ R' : Ending → World → Prop, ∀ (n6 : Int), ∀ (wr : World), wr.heap[(w5.heap.size + 1)]? = some (rec .ready none) →
   (wr.heap[(w5.heap.size + 1)]? = some (rec .ready none) ∧
    letW (wr.putObj (w5.heap.size + 1) (rec .busy none)) fun u0_2 =>
    ∃ n7 : Int, u0_2.cell? ⟨w.heap.size, 0, none⟩ = some (.int .i64 n7) ∧
    (∃ old, u0_2.cell? ((⟨w.heap.size, 0, none⟩ : Addr).add 0) = some old) ∧ u0_2.frozen? ((⟨w.heap.size, 0, none⟩ : Addr).add 0) = false ∧
    letW (u0_2.setCell ((⟨w.heap.size, 0, none⟩ : Addr).add 0) (.int .i64 (IntKind.wrap .i64 (n7 + 1)))) fun u0_3 =>
    u0_3.heap[(w5.heap.size + 1)]? = some (rec .busy none) ∧ R' (.returned (.bool true)) (u0_3.putObj (w5.heap.size + 1) (rec .ready none))) → callV P Bd y [.int .i64 n6] wr R') →
  Calls P gf ⟨first ++ [y] ++ caps⟩ ((w5.alloc (.deferred (some []))).alloc (rec .ready none)) fun ef wf => (∃ v, ef = .returned v) ∧
  (((∃ stj, stj ≠ .busy ∧ wf.heap[(w5.heap.size + 1)]? = some (rec stj none) ∧
     letW (wf.putObj (w5.heap.size + 1) (rec .exhausted none)) fun u0_4 =>
     ∃ n9 : Int, u0_4.cell? ⟨w.heap.size, 0, none⟩ = some (.int .i64 n9) ∧
     u0_4.heap[w5.heap.size]? = some (.deferred (some [])) ∧
     letW (u0_4.putObj w5.heap.size (.deferred none)) fun u0_5 =>
     R (.returned (.int .i64 n9)) u0_5) ∨ (∃ stj, stj ≠ .busy ∧ wf.heap[(w5.heap.size + 1)]? = some (rec stj (some .ret)) ∧
     letW (wf.putObj (w5.heap.size + 1) (rec .exhausted (some .ret))) fun u0_6 =>
     u0_6.heap[w5.heap.size]? = some (.deferred (some [])) ∧
     letW (u0_6.putObj w5.heap.size (.deferred none)) fun u0_7 =>
     R (.returned (.int .i64 0)) u0_7))))
def plan_space_Space_Count : Plan := { loops := fun i => match i with | _ => ([], []), cuts := fun i => match i with | _ => none, head := fun i => match i with | _ => none, rng := fun i => match i with | 3 => [(.int .i64)] | _ => [] }
theorem ok_space_Space_Count {s0 : Option Addr} {R : Ending → World → Prop} {w : World} (h : V_space_Space_Count s0 R w) : Calls P F.«space_Space_Count» ⟨[.pointer s0]⟩ w R :=
  calls_of_vc tabOk bdOk mixed (fn := Tryz.f57) (c := bodyOf Tryz.f57) (pl := plan_space_Space_Count) Tryz.func57 (by kernel_rfl) (Nat.le_of_ble_eq_true (by kernel_rfl)) (by kernel_rfl)
    (Eq.mp (show V_space_Space_Count s0 R w = vcFun P Tb Bd plan_space_Space_Count (raw Tryz.f57.ntmps) Tryz.f57.results.toList (bodyOf Tryz.f57) [.pointer s0] R w by kernel_rfl) h)

def V_pool_Plan_try (q0 : Option Addr) (dox1 : Value) (R : Ending → World → Prop) (w : World) : Prop :=
 letW (w.alloc (.cells ⟨[.pointer q0]⟩ T.«p_pool_Plan»)) fun u0 =>
 letW (u0.alloc (.cells ⟨[(.int .i64 0)]⟩ T.«api_Errno»)) fun u0_1 =>
 ∃ p6 : Option Addr, u0_1.cell? ⟨w.heap.size, 0, none⟩ = some (.pointer p6) ∧
 Calls P F.«pool_Plan_may» ⟨[.pointer p6]⟩ u0_1 fun e7 w7 => ∃ n7 : Int, e7 = .returned (.int .i64 n7) ∧
 bcase (n7 != 0) (
  (∃ old, w7.cell? ((⟨u0.heap.size, 0, none⟩ : Addr).add 0) = some old) ∧ w7.frozen? ((⟨u0.heap.size, 0, none⟩ : Addr).add 0) = false ∧
  letW (w7.setCell ((⟨u0.heap.size, 0, none⟩ : Addr).add 0) (.int .i64 n7)) fun u0_2 =>
  ∃ nr0 : Int, u0_2.cell? ⟨u0.heap.size, 0, none⟩ = some (.int .i64 nr0) ∧
  R (.returned (.int .i64 nr0)) u0_2)
 (callV P Bd dox1 [] w7 fun e13 w13 => ∃ n13 : Int, e13 = .returned (.int .i64 n13) ∧
  (∃ old, w13.cell? ((⟨u0.heap.size, 0, none⟩ : Addr).add 0) = some old) ∧ w13.frozen? ((⟨u0.heap.size, 0, none⟩ : Addr).add 0) = false ∧
  letW (w13.setCell ((⟨u0.heap.size, 0, none⟩ : Addr).add 0) (.int .i64 n13)) fun u0_3 =>
  DCalls P F.«pool_Plan_try_1» ⟨[.pointer (some ⟨w.heap.size, 0, none⟩), .pointer (some ⟨u0.heap.size, 0, none⟩)]⟩ u0_3 fun ed wd => (∃ v, ed = .returned v) ∧
  ∃ nr0_1 : Int, wd.cell? ⟨u0.heap.size, 0, none⟩ = some (.int .i64 nr0_1) ∧
  R (.returned (.int .i64 nr0_1)) wd)
def plan_pool_Plan_try : Plan := { loops := fun i => match i with | _ => ([], []), cuts := fun i => match i with | _ => none, head := fun i => match i with | _ => none, rng := fun i => match i with | _ => [] }
theorem ok_pool_Plan_try {q0 : Option Addr} {dox1 : Value} {R : Ending → World → Prop} {w : World} (h : V_pool_Plan_try q0 dox1 R w) : Calls P F.«pool_Plan_try» ⟨[.pointer q0, dox1]⟩ w R :=
  calls_of_vc tabOk bdOk mixed (fn := Tryz.f58) (c := bodyOf Tryz.f58) (pl := plan_pool_Plan_try) Tryz.func58 (by kernel_rfl) (Nat.le_of_ble_eq_true (by kernel_rfl)) (by kernel_rfl)
    (Eq.mp (show V_pool_Plan_try q0 dox1 R w = vcFun P Tb Bd plan_pool_Plan_try (raw Tryz.f58.ntmps) Tryz.f58.results.toList (bodyOf Tryz.f58) [.pointer q0, dox1] R w by kernel_rfl) h)

def V_pool_Plan_Put_1 (c0 : Option Addr) (c1 : Option Addr) (c2 : Option Addr) (R : Ending → World → Prop) (w : World) : Prop :=
 ptrW c0 fun a8 =>
 ∃ s8 : ByteArray, w.cell? a8 = some (.string s8) ∧
 Calls P F.«value_Split» ⟨[.string s8]⟩ w fun e9 w9 => ∃ (a9 : Option Addr) (l9 c9 : Nat), e9 = .returned (.slice a9 l9 c9) ∧
 ∃ (I2 : Tup [(11, (.int .i64))] → World → Prop) (μ2 : Tup [(11, (.int .i64))] → World → Nat), I2 (0, ()) w9 ∧
 ∀ (junk2 : St) (n11 : Int) (wL2 : World), I2 (n11, ()) wL2 →
 bcase (decide (n11 < (l9 : Int))) (
  (0 ≤ n11 ∧ n11 < (l9 : Int)) ∧
  ptrW a9 fun a13 =>
  ∃ s14 : ByteArray, wL2.cell? (a13.add (n11.toNat * 1)) = some (.string s14) ∧
  ptrW c1 fun a16 =>
  ∃ p16 : Option Addr, wL2.cell? a16 = some (.pointer p16) ∧
  Calls P F.«pool_Plan_one» ⟨[.pointer p16, .string s14]⟩ wL2 fun e18 w18 => ∃ n18_a : Int, ∃ n18_b : Int, e18 = .returned (.tuple ⟨[.int .u32 n18_a, .int .i64 n18_b]⟩) ∧
  bcase (n18_b != 0) (
   R (.returned (.int .i64 n18_b)) w18)
  (ptrW c2 fun a24 =>
   ∃ (a24_1 : Option Addr) (l24 c24 : Nat), w18.cell? a24 = some (.slice a24_1 l24 c24) ∧
   ∃ (a26 : Option Addr) (l26 c26 : Nat), ∃ w26, (Instr.buildSlice T.«l_u32» 1 ⟨[(0, .int .u32 n18_a)]⟩).run P w18 = .ok (.slice a26 l26 c26) w26 ∧
   ∃ (a27 : Option Addr) (l27 c27 : Nat), ∃ w27, (Builtin.append_ ⟨[T.«l_u32», T.«l_u32»]⟩ T.«l_u32» ⟨[.slice a24_1 l24 c24, .slice a26 l26 c26]⟩).run P w26 = .ok (.slice a27 l27 c27) w27 ∧
   ptrW c2 fun ax4 =>
   (∃ old, w27.cell? (ax4.add 0) = some old) ∧ w27.frozen? (ax4.add 0) = false ∧
   letW (w27.setCell (ax4.add 0) (.slice a27 l27 c27)) fun u0 =>
   I2 ((IntKind.wrap .i64 (n11 + 1)), ()) u0 ∧ μ2 ((IntKind.wrap .i64 (n11 + 1)), ()) u0 < μ2 (n11, ()) wL2))
 (R (.returned (.int .i64 0)) wL2)
def plan_pool_Plan_Put_1 : Plan := { loops := fun i => match i with | 32 => ([(11, (.int .i64))], [3, 5, 6, 7, 11, 12, 13, 14, 15, 16, 17, 18, 19, 20, 21, 22, 23, 24, 25, 26, 27, 28]) | _ => ([], []), cuts := fun i => match i with | _ => none, head := fun i => match i with | _ => none, rng := fun i => match i with | _ => [] }
theorem ok_pool_Plan_Put_1 {c0 : Option Addr} {c1 : Option Addr} {c2 : Option Addr} {R : Ending → World → Prop} {w : World} (h : V_pool_Plan_Put_1 c0 c1 c2 R w) : Calls P F.«pool_Plan_Put_1» ⟨[.pointer c0, .pointer c1, .pointer c2]⟩ w R :=
  calls_of_vc tabOk bdOk mixed (fn := Tryz.f59) (c := bodyOf Tryz.f59) (pl := plan_pool_Plan_Put_1) Tryz.func59 (by kernel_rfl) (Nat.le_of_ble_eq_true (by kernel_rfl)) (by kernel_rfl)
    (Eq.mp (show V_pool_Plan_Put_1 c0 c1 c2 R w = vcFun P Tb Bd plan_pool_Plan_Put_1 (raw Tryz.f59.ntmps) Tryz.f59.results.toList (bodyOf Tryz.f59) [.pointer c0, .pointer c1, .pointer c2] R w by kernel_rfl) h)

def V_value_Split (data0 : ByteArray) (R : Ending → World → Prop) (w : World) : Prop :=
 ∃ (I2 : Tup [(0, .str), (3, .slice)] → World → Prop) (μ2 : Tup [(0, .str), (3, .slice)] → World → Nat), I2 (data0, (none, 0, 0), ()) w ∧
 ∀ (junk2 : St) (s0 : ByteArray) (a3 : Option Addr) (l3 c3 : Nat) (wL2 : World), I2 (s0, (a3, l3, c3), ()) wL2 →
 bcase ((s0.size : Int) == 0) (
  R (.returned (.slice a3 l3 c3)) wL2)
 (bcase (decide ((s0.size : Int) ≤ 64)) (
   ∃ (a15 : Option Addr) (l15 c15 : Nat), ∃ w15, (Instr.buildSlice T.«l_string» 1 ⟨[(0, .string s0)]⟩).run P wL2 = .ok (.slice a15 l15 c15) w15 ∧
   ∃ (a16 : Option Addr) (l16 c16 : Nat), ∃ w16, (Builtin.append_ ⟨[T.«l_string», T.«l_string»]⟩ T.«l_string» ⟨[.slice a3 l3 c3, .slice a15 l15 c15]⟩).run P w15 = .ok (.slice a16 l16 c16) w16 ∧
   R (.returned (.slice a16 l16 c16)) w16)
  ((0 ≤ (64 : Int) ∧ (64 : Int) ≤ (s0.size : Int) ∧ (s0.size : Int) ≤ (s0.size : Int)) ∧
   (0 ≤ (0 : Int) ∧ (0 : Int) ≤ (64 : Int) ∧ (64 : Int) ≤ (s0.size : Int)) ∧
   ∀ wd6, Drew wL2 wd6 →
   ∃ (a20 : Option Addr) (l20 c20 : Nat), ∃ w20, (Instr.buildSlice T.«l_string» 1 ⟨[(0, .string (s0.extract (0 : Int).toNat (64 : Int).toNat))]⟩).run P wd6 = .ok (.slice a20 l20 c20) w20 ∧
   ∃ (a21 : Option Addr) (l21 c21 : Nat), ∃ w21, (Builtin.append_ ⟨[T.«l_string», T.«l_string»]⟩ T.«l_string» ⟨[.slice a3 l3 c3, .slice a20 l20 c20]⟩).run P w20 = .ok (.slice a21 l21 c21) w21 ∧
   I2 ((s0.extract (64 : Int).toNat (s0.size : Int).toNat), (a21, l21, c21), ()) w21 ∧ μ2 ((s0.extract (64 : Int).toNat (s0.size : Int).toNat), (a21, l21, c21), ()) w21 < μ2 (s0, (a3, l3, c3), ()) wL2))
def plan_value_Split : Plan := { loops := fun i => match i with | 32 => ([(0, .str), (3, .slice)], [0, 3, 4, 5, 6, 7, 8, 9, 10, 11, 12, 13, 14, 15, 16, 17, 18, 19, 20, 21, 22, 23]) | _ => ([], []), cuts := fun i => match i with | _ => none, head := fun i => match i with | 6 => some ([0, 5, 6], [1, 2], [3, 4, 7, 8]) | _ => none, rng := fun i => match i with | _ => [] }
theorem ok_value_Split {data0 : ByteArray} {R : Ending → World → Prop} {w : World} (h : V_value_Split data0 R w) : Calls P F.«value_Split» ⟨[.string data0]⟩ w R :=
  calls_of_vc tabOk bdOk mixed (fn := Tryz.f60) (c := bodyOf Tryz.f60) (pl := plan_value_Split) Tryz.func60 (by kernel_rfl) (Nat.le_of_ble_eq_true (by kernel_rfl)) (by kernel_rfl)
    (Eq.mp (show V_value_Split data0 R w = vcFun P Tb Bd plan_value_Split (raw Tryz.f60.ntmps) Tryz.f60.results.toList (bodyOf Tryz.f60) [.string data0] R w by kernel_rfl) h)

def V_pool_Plan_one (q0 : Option Addr) (data1 : ByteArray) (R : Ending → World → Prop) (w : World) : Prop :=
 ptrW q0 fun a12 =>
 ∃ p14 : Option Addr, w.cell? (a12.add 1) = some (.pointer p14) ∧
 Calls P F.«dedup_Table_Find» ⟨[.pointer p14, .string data1]⟩ w fun e16 w16 => ∃ n16_a : Int, ∃ b16_b : Bool, e16 = .returned (.tuple ⟨[.int .u32 n16_a, .bool b16_b]⟩) ∧
 bcase b16_b (
  ptrW q0 fun a22 =>
  ∃ p24 : Option Addr, w16.cell? (a22.add 1) = some (.pointer p24) ∧
  Calls P F.«dedup_Table_Hold» ⟨[.pointer p24, .int .u32 n16_a]⟩ w16 fun e26 w26 => ∃ n26 : Int, e26 = .returned (.int .i64 n26) ∧
  R (.returned (.tuple ⟨[.int .u32 n16_a, .int .i64 n26]⟩)) w26)
 (ptrW q0 fun a29 =>
  ∃ p31 : Option Addr, w16.cell? (a29.add 2) = some (.pointer p31) ∧
  Calls P F.«space_Space_Take» ⟨[.pointer p31]⟩ w16 fun e32 w32 => ∃ n32_a : Int, ∃ n32_b : Int, e32 = .returned (.tuple ⟨[.int .i64 n32_a, .int .i64 n32_b]⟩) ∧
  bcase (n32_b != 0) (
   R (.returned (.tuple ⟨[.int .u32 0, .int .i64 n32_b]⟩)) w32)
  (ptrW q0 fun a39 =>
   ∃ p41 : Option Addr, w32.cell? (a39.add 1) = some (.pointer p41) ∧
   Calls P F.«dedup_Table_Add» ⟨[.pointer p41, .string data1, .int .i64 n32_a]⟩ w32 fun e44 w44 => ∃ n44_a : Int, ∃ n44_b : Int, e44 = .returned (.tuple ⟨[.int .u32 n44_a, .int .i64 n44_b]⟩) ∧
   R (.returned (.tuple ⟨[.int .u32 n44_a, .int .i64 n44_b]⟩)) w44))
def plan_pool_Plan_one : Plan := { loops := fun i => match i with | _ => ([], []), cuts := fun i => match i with | _ => none, head := fun i => match i with | _ => none, rng := fun i => match i with | _ => [] }
theorem ok_pool_Plan_one {q0 : Option Addr} {data1 : ByteArray} {R : Ending → World → Prop} {w : World} (h : V_pool_Plan_one q0 data1 R w) : Calls P F.«pool_Plan_one» ⟨[.pointer q0, .string data1]⟩ w R :=
  calls_of_vc tabOk bdOk mixed (fn := Tryz.f61) (c := bodyOf Tryz.f61) (pl := plan_pool_Plan_one) Tryz.func61 (by kernel_rfl) (Nat.le_of_ble_eq_true (by kernel_rfl)) (by kernel_rfl)
    (Eq.mp (show V_pool_Plan_one q0 data1 R w = vcFun P Tb Bd plan_pool_Plan_one (raw Tryz.f61.ntmps) Tryz.f61.results.toList (bodyOf Tryz.f61) [.pointer q0, .string data1] R w by kernel_rfl) h)

def V_line_Line_act (l0 : Option Addr) (dox1 : Value) (R : Ending → World → Prop) (w : World) : Prop :=
 Calls P F.«line_Line_holds» ⟨[.pointer l0]⟩ w fun e9 w9 => ∃ n9 : Int, e9 = .returned (.int .i64 n9) ∧
 bcase (n9 != 0) (
  R (.returned (.int .i64 n9)) w9)
 (ptrW l0 fun a14 =>
  ∃ n16 : Int, w9.cell? (a14.add 3) = some (.int .i64 n16) ∧
  ptrW l0 fun a18 =>
  ∃ n20 : Int, w9.cell? (a18.add 3) = some (.int .i64 n20) ∧
  ptrW l0 fun a22 =>
  (∃ old, w9.cell? ((a22.add 3).add 0) = some old) ∧ w9.frozen? ((a22.add 3).add 0) = false ∧
  letW (w9.setCell ((a22.add 3).add 0) (.int .i64 (IntKind.wrap .i64 (n20 + 1)))) fun u0 =>
  ptrW l0 fun a26 =>
  ∃ n28 : Int, u0.cell? (a26.add 1) = some (.int .i64 n28) ∧
  bcase (n16 != n28) (
   callV P Bd dox1 [] u0 fun e31 w31 => ∃ n31 : Int, e31 = .returned (.int .i64 n31) ∧
   R (.returned (.int .i64 n31)) w31)
  (Calls P F.«line_Line_last» ⟨[.pointer l0]⟩ u0 fun e35 w35 => ∃ b35 : Bool, e35 = .returned (.bool b35) ∧
   bcase b35 (
    callV P Bd dox1 [] w35 fun e37 w37 => ∃ n37 : Int, e37 = .returned (.int .i64 n37) ∧
    Calls P F.«line_Line_Blow» ⟨[.pointer l0]⟩ w37 fun e39 w39 => e39 = .returned (.tuple ⟨[]⟩) ∧
    R (.returned (.int .i64 8)) w39)
   (Calls P F.«line_Line_Blow» ⟨[.pointer l0]⟩ w35 fun e39_1 w39_1 => e39_1 = .returned (.tuple ⟨[]⟩) ∧
    R (.returned (.int .i64 8)) w39_1)))
def plan_line_Line_act : Plan := { loops := fun i => match i with | _ => ([], []), cuts := fun i => match i with | _ => none, head := fun i => match i with | _ => none, rng := fun i => match i with | _ => [] }
theorem ok_line_Line_act {l0 : Option Addr} {dox1 : Value} {R : Ending → World → Prop} {w : World} (h : V_line_Line_act l0 dox1 R w) : Calls P F.«line_Line_act» ⟨[.pointer l0, dox1]⟩ w R :=
  calls_of_vc tabOk bdOk mixed (fn := Tryz.f62) (c := bodyOf Tryz.f62) (pl := plan_line_Line_act) Tryz.func62 (by kernel_rfl) (Nat.le_of_ble_eq_true (by kernel_rfl)) (by kernel_rfl)
    (Eq.mp (show V_line_Line_act l0 dox1 R w = vcFun P Tb Bd plan_line_Line_act (raw Tryz.f62.ntmps) Tryz.f62.results.toList (bodyOf Tryz.f62) [.pointer l0, dox1] R w by kernel_rfl) h)

def V_line_Line_Write_1 (c0 : Option Addr) (c1 : Option Addr) (c2 : Option Addr) (R : Ending → World → Prop) (w : World) : Prop :=
 ∀ wd1, Drew w wd1 →
 ptrW c0 fun a4 =>
 ∃ p4 : Option Addr, wd1.cell? a4 = some (.pointer p4) ∧
 ptrW p4 fun a5 =>
 ∃ p7 : Option Addr, wd1.cell? (a5.add 0) = some (.pointer p7) ∧
 ptrW c1 fun a8 =>
 ∃ n8 : Int, wd1.cell? a8 = some (.int .i64 n8) ∧
 ptrW c2 fun a9 =>
 ∃ s9 : ByteArray, wd1.cell? a9 = some (.string s9) ∧
 Calls P F.«device_Device_Write» ⟨[.pointer p7, .int .i64 n8, .string s9]⟩ wd1 fun e10 w10 => ∃ n10 : Int, e10 = .returned (.int .i64 n10) ∧
 R (.returned (.int .i64 n10)) w10
def plan_line_Line_Write_1 : Plan := { loops := fun i => match i with | _ => ([], []), cuts := fun i => match i with | _ => none, head := fun i => match i with | _ => none, rng := fun i => match i with | _ => [], stg := fun i => match i with | 1 => some ((.q 0 (.q 1 (.q 2 (.q 3 (.q 4 (.q 5 (.w 6 [] (.q 7 .done)))))))), [0, 1, 3, 7, 0, 0, 63, 127]) | _ => none }
theorem ok_line_Line_Write_1 {c0 : Option Addr} {c1 : Option Addr} {c2 : Option Addr} {R : Ending → World → Prop} {w : World} (h : V_line_Line_Write_1 c0 c1 c2 R w) : Calls P F.«line_Line_Write_1» ⟨[.pointer c0, .pointer c1, .pointer c2]⟩ w R :=
  calls_of_vc tabOk bdOk mixed (fn := Tryz.f63) (c := bodyOf Tryz.f63) (pl := plan_line_Line_Write_1) Tryz.func63 (by kernel_rfl) (Nat.le_of_ble_eq_true (by kernel_rfl)) (by kernel_rfl)
    (Eq.mp (show V_line_Line_Write_1 c0 c1 c2 R w = vcFun P Tb Bd plan_line_Line_Write_1 (raw Tryz.f63.ntmps) Tryz.f63.results.toList (bodyOf Tryz.f63) [.pointer c0, .pointer c1, .pointer c2] R w by kernel_rfl) h)

def V_device_Device_Write (d0 : Option Addr) (atx1 : Int) (s2 : ByteArray) (R : Ending → World → Prop) (w : World) : Prop :=
 Calls P F.«device_Device_at» ⟨[.pointer d0, .int .i64 atx1]⟩ w fun e12 w12 => ∃ p12_a : Option Addr, ∃ n12_b : Int, e12 = .returned (.tuple ⟨[.pointer p12_a, .int .i64 n12_b]⟩) ∧
 bcase (n12_b != 0) (
  R (.returned (.int .i64 n12_b)) w12)
 (bcase (decide ((s2.size : Int) > 64)) (
   R (.returned (.int .i64 3)) w12)
  (ptrW p12_a fun a25 =>
   storeW (List.replicate 64 (.int .u8 0)) (a25.add 64) 0 (fun u0 =>
    ptrW p12_a fun a28 =>
    (0 ≤ (0 : Int) ∧ (0 : Int) ≤ ((64 : Nat) : Int) ∧ ((64 : Nat) : Int) ≤ ((64 : Nat) : Int)) ∧
    ∃ n32 : Int, ∃ w32, (Builtin.copy_ ⟨[T.«l_u8», T.«string»]⟩ T.«i64'» ⟨[.slice (some (if 64 = (0 : Int).toNat then (a28.add 64) else (a28.add 64).add ((0 : Int).toNat * 1))) (((64 : Nat) : Int).toNat - (0 : Int).toNat) (64 - (0 : Int).toNat), .string s2]⟩).run P u0 = .ok (.int .i64 n32) w32 ∧
    ptrW p12_a fun a34 =>
    (∃ old, w32.cell? ((a34.add 128).add 0) = some old) ∧ w32.frozen? ((a34.add 128).add 0) = false ∧
    letW (w32.setCell ((a34.add 128).add 0) (.bool true)) fun u0_1 =>
    R (.returned (.int .i64 0)) u0_1) w12))
def plan_device_Device_Write : Plan := { loops := fun i => match i with | _ => ([], []), cuts := fun i => match i with | _ => none, head := fun i => match i with | _ => none, rng := fun i => match i with | _ => [] }
theorem ok_device_Device_Write {d0 : Option Addr} {atx1 : Int} {s2 : ByteArray} {R : Ending → World → Prop} {w : World} (h : V_device_Device_Write d0 atx1 s2 R w) : Calls P F.«device_Device_Write» ⟨[.pointer d0, .int .i64 atx1, .string s2]⟩ w R :=
  calls_of_vc tabOk bdOk mixed (fn := Tryz.f64) (c := bodyOf Tryz.f64) (pl := plan_device_Device_Write) Tryz.func64 (by kernel_rfl) (Nat.le_of_ble_eq_true (by kernel_rfl)) (by kernel_rfl)
    (Eq.mp (show V_device_Device_Write d0 atx1 s2 R w = vcFun P Tb Bd plan_device_Device_Write (raw Tryz.f64.ntmps) Tryz.f64.results.toList (bodyOf Tryz.f64) [.pointer d0, .int .i64 atx1, .string s2] R w by kernel_rfl) h)

def V_revertref12_Line_counted (l0 : Option Addr) (R : Ending → World → Prop) (w : World) : Prop :=
 ptrW l0 fun a5 =>
 ∃ n7 : Int, w.cell? (a5.add 3) = some (.int .i64 n7) ∧
 ptrW l0 fun a9 =>
 ∃ n11 : Int, w.cell? (a9.add 3) = some (.int .i64 n11) ∧
 ptrW l0 fun a13 =>
 (∃ old, w.cell? ((a13.add 3).add 0) = some old) ∧ w.frozen? ((a13.add 3).add 0) = false ∧
 letW (w.setCell ((a13.add 3).add 0) (.int .i64 (IntKind.wrap .i64 (n11 + 1)))) fun u0 =>
 ptrW l0 fun a17 =>
 ∃ n19 : Int, u0.cell? (a17.add 1) = some (.int .i64 n19) ∧
 R (.returned (.bool (n7 == n19))) u0
def plan_revertref12_Line_counted : Plan := { loops := fun i => match i with | _ => ([], []), cuts := fun i => match i with | _ => none, head := fun i => match i with | _ => none, rng := fun i => match i with | _ => [] }
theorem ok_revertref12_Line_counted {l0 : Option Addr} {R : Ending → World → Prop} {w : World} (h : V_revertref12_Line_counted l0 R w) : Calls P F.«revertref12_Line_counted» ⟨[.pointer l0]⟩ w R :=
  calls_of_vc tabOk bdOk mixed (fn := Tryz.f65) (c := bodyOf Tryz.f65) (pl := plan_revertref12_Line_counted) Tryz.func65 (by kernel_rfl) (Nat.le_of_ble_eq_true (by kernel_rfl)) (by kernel_rfl)
    (Eq.mp (show V_revertref12_Line_counted l0 R w = vcFun P Tb Bd plan_revertref12_Line_counted (raw Tryz.f65.ntmps) Tryz.f65.results.toList (bodyOf Tryz.f65) [.pointer l0] R w by kernel_rfl) h)

def V_revertref11_Device_Write (d0 : Option Addr) (atx1 : Int) (s2 : ByteArray) (R : Ending → World → Prop) (w : World) : Prop :=
 bcase (decide (atx1 < 0)) (
  R (.returned (.int .i64 2)) w)
 (ptrW d0 fun a15 =>
  ∃ (a17 : Option Addr) (l17 c17 : Nat), w.cell? (a15.add 0) = some (.slice a17 l17 c17) ∧
  bcase (decide (atx1 ≥ (l17 : Int))) (
   R (.returned (.int .i64 2)) w)
  (bcase (decide ((s2.size : Int) > 64)) (
    R (.returned (.int .i64 3)) w)
   (Calls P F.«revertref11_Device_place» ⟨[.pointer d0, .int .i64 atx1]⟩ w fun e27 w27 => ∃ n27_a : Int, ∃ b27_b : Bool, e27 = .returned (.tuple ⟨[.int .i64 n27_a, .bool b27_b]⟩) ∧
    ptrW d0 fun a32 =>
    ∃ (a34 : Option Addr) (l34 c34 : Nat), w27.cell? (a32.add 1) = some (.slice a34 l34 c34) ∧
    (0 ≤ (0 : Int) ∧ (0 : Int) ≤ n27_a ∧ n27_a ≤ (c34 : Int) ∧ (c34 : Int) ≤ (c34 : Int)) ∧
    ∃ (a37 : Option Addr) (l37 c37 : Nat), ∃ w37, (Builtin.append_ ⟨[T.«l_revertref11_Fresh», T.«l_revertref11_Fresh»]⟩ T.«l_revertref11_Fresh» ⟨[.slice none 0 0, .slice (if (c34 : Int).toNat = (0 : Int).toNat then a34 else a34.map (·.add ((0 : Int).toNat * 2))) (n27_a.toNat - (0 : Int).toNat) ((c34 : Int).toNat - (0 : Int).toNat)]⟩).run P w27 = .ok (.slice a37 l37 c37) w37 ∧
    ∃ (a44 : Option Addr) (l44 c44 : Nat), ∃ w44, (Instr.makeSlice T.«l_u8» (.int .i64 (IntKind.wrap .i64 (64 - (s2.size : Int)))) (.int .i64 (IntKind.wrap .i64 (64 - (s2.size : Int))))).run P w37 = .ok (.slice a44 l44 c44) w44 ∧
    ∃ s45 : ByteArray, ∃ w45, (convert T.«l_u8» T.«string» (.slice a44 l44 c44)).run P w44 = .ok (.string s45) w45 ∧
    ((s2.size + s45.size : Nat) : Int) ≤ 9223372036854775807 ∧
    ∃ (a48 : Option Addr) (l48 c48 : Nat), ∃ w48, (Instr.buildSlice T.«l_revertref11_Fresh» 1 ⟨[(0, .agg ⟨[.int .i64 atx1, .string (s2 ++ s45)]⟩)]⟩).run P w45 = .ok (.slice a48 l48 c48) w48 ∧
    ∃ (a49 : Option Addr) (l49 c49 : Nat), ∃ w49, (Builtin.append_ ⟨[T.«l_revertref11_Fresh», T.«l_revertref11_Fresh»]⟩ T.«l_revertref11_Fresh» ⟨[.slice a37 l37 c37, .slice a48 l48 c48]⟩).run P w48 = .ok (.slice a49 l49 c49) w49 ∧
    bcase b27_b (
     ptrW d0 fun a56 =>
     ∃ (a58 : Option Addr) (l58 c58 : Nat), w49.cell? (a56.add 1) = some (.slice a58 l58 c58) ∧
     (0 ≤ (IntKind.wrap .i64 (n27_a + 1)) ∧ (IntKind.wrap .i64 (n27_a + 1)) ≤ (l58 : Int) ∧ (l58 : Int) ≤ (c58 : Int) ∧ (c58 : Int) ≤ (c58 : Int)) ∧
     ∃ (a61 : Option Addr) (l61 c61 : Nat), ∃ w61, (Builtin.append_ ⟨[T.«l_revertref11_Fresh», T.«l_revertref11_Fresh»]⟩ T.«l_revertref11_Fresh» ⟨[.slice a49 l49 c49, .slice (if (c58 : Int).toNat = (IntKind.wrap .i64 (n27_a + 1)).toNat then a58 else a58.map (·.add ((IntKind.wrap .i64 (n27_a + 1)).toNat * 2))) ((l58 : Int).toNat - (IntKind.wrap .i64 (n27_a + 1)).toNat) ((c58 : Int).toNat - (IntKind.wrap .i64 (n27_a + 1)).toNat)]⟩).run P w49 = .ok (.slice a61 l61 c61) w61 ∧
     ptrW d0 fun a62 =>
     (∃ old, w61.cell? ((a62.add 1).add 0) = some old) ∧ w61.frozen? ((a62.add 1).add 0) = false ∧
     letW (w61.setCell ((a62.add 1).add 0) (.slice a61 l61 c61)) fun u0 =>
     R (.returned (.int .i64 0)) u0)
    (ptrW d0 fun a56_1 =>
     ∃ (a58_1 : Option Addr) (l58_1 c58_1 : Nat), w49.cell? (a56_1.add 1) = some (.slice a58_1 l58_1 c58_1) ∧
     (0 ≤ n27_a ∧ n27_a ≤ (l58_1 : Int) ∧ (l58_1 : Int) ≤ (c58_1 : Int) ∧ (c58_1 : Int) ≤ (c58_1 : Int)) ∧
     ∃ (a61_1 : Option Addr) (l61_1 c61_1 : Nat), ∃ w61_1, (Builtin.append_ ⟨[T.«l_revertref11_Fresh», T.«l_revertref11_Fresh»]⟩ T.«l_revertref11_Fresh» ⟨[.slice a49 l49 c49, .slice (if (c58_1 : Int).toNat = n27_a.toNat then a58_1 else a58_1.map (·.add (n27_a.toNat * 2))) ((l58_1 : Int).toNat - n27_a.toNat) ((c58_1 : Int).toNat - n27_a.toNat)]⟩).run P w49 = .ok (.slice a61_1 l61_1 c61_1) w61_1 ∧
     ptrW d0 fun a62_1 =>
     (∃ old, w61_1.cell? ((a62_1.add 1).add 0) = some old) ∧ w61_1.frozen? ((a62_1.add 1).add 0) = false ∧
     letW (w61_1.setCell ((a62_1.add 1).add 0) (.slice a61_1 l61_1 c61_1)) fun u0_1 =>
     R (.returned (.int .i64 0)) u0_1))))
def plan_revertref11_Device_Write : Plan := { loops := fun i => match i with | _ => ([], []), cuts := fun i => match i with | _ => none, head := fun i => match i with | _ => none, rng := fun i => match i with | _ => [] }
theorem ok_revertref11_Device_Write {d0 : Option Addr} {atx1 : Int} {s2 : ByteArray} {R : Ending → World → Prop} {w : World} (h : V_revertref11_Device_Write d0 atx1 s2 R w) : Calls P F.«revertref11_Device_Write» ⟨[.pointer d0, .int .i64 atx1, .string s2]⟩ w R :=
  calls_of_vc tabOk bdOk mixed (fn := Tryz.f66) (c := bodyOf Tryz.f66) (pl := plan_revertref11_Device_Write) Tryz.func66 (by kernel_rfl) (Nat.le_of_ble_eq_true (by kernel_rfl)) (by kernel_rfl)
    (Eq.mp (show V_revertref11_Device_Write d0 atx1 s2 R w = vcFun P Tb Bd plan_revertref11_Device_Write (raw Tryz.f66.ntmps) Tryz.f66.results.toList (bodyOf Tryz.f66) [.pointer d0, .int .i64 atx1, .string s2] R w by kernel_rfl) h)

def V_pool_Pool_load (p0 : Option Addr) (c1_0 : Int) (c1_1 : Int) (c1_2 : Int) (c1_3 : Int) (R : Ending → World → Prop) (w : World) : Prop :=
 letW (w.alloc (.cells ⟨[.int .u32 c1_0, .int .i64 c1_1, .int .i64 c1_2, .int .i64 c1_3]⟩ T.«pool_Chunk»)) fun u0 =>
 ∀ wd1, Drew u0 wd1 →
 ∃ n8 : Int, wd1.cell? ((⟨w.heap.size, 0, none⟩ : Addr).add 3) = some (.int .i64 n8) ∧
 bcase (decide (n8 < 1)) (
  R (.returned (.int .i64 4)) wd1)
 (∃ n12 : Int, wd1.cell? ((⟨w.heap.size, 0, none⟩ : Addr).add 3) = some (.int .i64 n12) ∧
  bcase (decide (n12 > 64)) (
   R (.returned (.int .i64 4)) wd1)
  (ptrW p0 fun a17 =>
   ∃ p19 : Option Addr, wd1.cell? (a17.add 2) = some (.pointer p19) ∧
   ∃ n21 : Int, wd1.cell? ((⟨w.heap.size, 0, none⟩ : Addr).add 1) = some (.int .i64 n21) ∧
   Calls P F.«space_Space_Use» ⟨[.pointer p19, .int .i64 n21]⟩ wd1 fun e22 w22 => ∃ n22 : Int, e22 = .returned (.int .i64 n22) ∧
   bcase (n22 != 0) (
    R (.returned (.int .i64 4)) w22)
   (∀ wd3, Drew w22 wd3 →
    ptrW p0 fun a27 =>
    ∃ p29 : Option Addr, wd3.cell? (a27.add 0) = some (.pointer p29) ∧
    ∃ n31 : Int, wd3.cell? ((⟨w.heap.size, 0, none⟩ : Addr).add 1) = some (.int .i64 n31) ∧
    Calls P F.«line_Line_Read» ⟨[.pointer p29, .int .i64 n31]⟩ wd3 fun e32 w32 => ∃ s32_a : ByteArray, ∃ n32_b : Int, e32 = .returned (.tuple ⟨[.string s32_a, .int .i64 n32_b]⟩) ∧
    bcase (n32_b != 0) (
     R (.returned (.int .i64 n32_b)) w32)
    (∀ wd6, Drew w32 wd6 →
     ptrW p0 fun a39 =>
     ∃ p41 : Option Addr, wd6.cell? (a39.add 1) = some (.pointer p41) ∧
     ∃ n43 : Int, wd6.cell? ((⟨w.heap.size, 0, none⟩ : Addr).add 0) = some (.int .u32 n43) ∧
     ∃ n46 : Int, wd6.cell? ((⟨w.heap.size, 0, none⟩ : Addr).add 3) = some (.int .i64 n46) ∧
     (0 ≤ (0 : Int) ∧ (0 : Int) ≤ n46 ∧ n46 ≤ (s32_a.size : Int)) ∧
     ∃ n49 : Int, wd6.cell? ((⟨w.heap.size, 0, none⟩ : Addr).add 1) = some (.int .i64 n49) ∧
     ∃ n51 : Int, wd6.cell? ((⟨w.heap.size, 0, none⟩ : Addr).add 2) = some (.int .i64 n51) ∧
     Calls P F.«dedup_Table_Load» ⟨[.pointer p41, .int .u32 n43, .string (s32_a.extract (0 : Int).toNat n46.toNat), .int .i64 n49, .int .i64 n51]⟩ wd6 fun e52 w52 => ∃ n52 : Int, e52 = .returned (.int .i64 n52) ∧
     bcase (n52 != 0) (
      R (.returned (.int .i64 4)) w52)
     (R (.returned (.int .i64 0)) w52)))))
def plan_pool_Pool_load : Plan := { loops := fun i => match i with | _ => ([], []), cuts := fun i => match i with | _ => none, head := fun i => match i with | _ => none, rng := fun i => match i with | _ => [], stg := fun i => match i with | 1 => some ((.q 0 (.q 1 (.q 2 (.q 3 (.q 4 (.q 5 (.q 6 (.q 7 (.q 8 (.q 9 (.q 10 (.q 11 (.q 12 (.q 13 (.q 14 (.w 15 [] (.q 16 (.q 17 .done)))))))))))))))))), [0, 1, 3, 7, 15, 31, 63, 127, 255, 511, 1023, 2047, 4095, 511, 8703, 32767, 65535, 131071]) | 3 => some ((.q 0 (.q 1 (.q 2 (.q 3 (.q 4 (.q 5 (.w 6 [] (.q 7 (.q 8 (.q 9 (.q 10 (.q 11 .done)))))))))))), [0, 1, 3, 7, 0, 16, 63, 127, 255, 255, 511, 2047]) | 6 => some ((.q 0 (.q 1 (.q 2 (.q 3 (.q 4 (.q 5 (.q 6 (.q 7 (.q 8 (.q 9 (.q 10 (.q 11 (.q 12 (.q 13 (.w 14 [] (.q 15 .done)))))))))))))))), [0, 1, 3, 7, 0, 16, 0, 0, 128, 448, 0, 1024, 0, 4096, 16383, 32767]) | _ => none }
theorem ok_pool_Pool_load {p0 : Option Addr} {c1_0 : Int} {c1_1 : Int} {c1_2 : Int} {c1_3 : Int} {R : Ending → World → Prop} {w : World} (h : V_pool_Pool_load p0 c1_0 c1_1 c1_2 c1_3 R w) : Calls P F.«pool_Pool_load» ⟨[.pointer p0, .agg ⟨[.int .u32 c1_0, .int .i64 c1_1, .int .i64 c1_2, .int .i64 c1_3]⟩]⟩ w R :=
  calls_of_vc tabOk bdOk mixed (fn := Tryz.f69) (c := bodyOf Tryz.f69) (pl := plan_pool_Pool_load) Tryz.func69 (by kernel_rfl) (Nat.le_of_ble_eq_true (by kernel_rfl)) (by kernel_rfl)
    (Eq.mp (show V_pool_Pool_load p0 c1_0 c1_1 c1_2 c1_3 R w = vcFun P Tb Bd plan_pool_Pool_load (raw Tryz.f69.ntmps) Tryz.f69.results.toList (bodyOf Tryz.f69) [.pointer p0, .agg ⟨[.int .u32 c1_0, .int .i64 c1_1, .int .i64 c1_2, .int .i64 c1_3]⟩] R w by kernel_rfl) h)

def V_dedup_Table_Skip (t0 : Option Addr) (next1 : Int) (R : Ending → World → Prop) (w : World) : Prop :=
 Calls P F.«dedup_Table_is» ⟨[.pointer t0]⟩ w fun e5 w5 => ∃ b5 : Bool, e5 = .returned (.bool b5) ∧
 bcase b5 (
  ptrW t0 fun a8 =>
  ∃ n10 : Int, w5.cell? (a8.add 2) = some (.int .u32 n10) ∧
  ptrW t0 fun a13 =>
  (∃ old, w5.cell? ((a13.add 2).add 0) = some old) ∧ w5.frozen? ((a13.add 2).add 0) = false ∧
  letW (w5.setCell ((a13.add 2).add 0) (.int .u32 (if next1 > n10 then next1 else n10))) fun u0 =>
  R (.returned (.tuple ⟨[]⟩)) u0)
 (R (.returned (.tuple ⟨[]⟩)) w5)
def plan_dedup_Table_Skip : Plan := { loops := fun i => match i with | _ => ([], []), cuts := fun i => match i with | _ => none, head := fun i => match i with | _ => none, rng := fun i => match i with | _ => [] }
theorem ok_dedup_Table_Skip {t0 : Option Addr} {next1 : Int} {R : Ending → World → Prop} {w : World} (h : V_dedup_Table_Skip t0 next1 R w) : Calls P F.«dedup_Table_Skip» ⟨[.pointer t0, .int .u32 next1]⟩ w R :=
  calls_of_vc tabOk bdOk mixed (fn := Tryz.f70) (c := bodyOf Tryz.f70) (pl := plan_dedup_Table_Skip) Tryz.func70 (by kernel_rfl) (Nat.le_of_ble_eq_true (by kernel_rfl)) (by kernel_rfl)
    (Eq.mp (show V_dedup_Table_Skip t0 next1 R w = vcFun P Tb Bd plan_dedup_Table_Skip (raw Tryz.f70.ntmps) Tryz.f70.results.toList (bodyOf Tryz.f70) [.pointer t0, .int .u32 next1] R w by kernel_rfl) h)

def V_revertref17_Pool_free (p0 : Option Addr) (R : Ending → World → Prop) (w : World) : Prop :=
 ptrW p0 fun a9 =>
 ∃ p11 : Option Addr, w.cell? (a9.add 0) = some (.pointer p11) ∧
 ptrW p11 fun a12 =>
 ∃ p14 : Option Addr, w.cell? (a12.add 0) = some (.pointer p14) ∧
 ptrW p14 fun a15 =>
 ∃ (a17 : Option Addr) (l17 c17 : Nat), w.cell? (a15.add 0) = some (.slice a17 l17 c17) ∧
 (2 : Int) ≠ 0 ∧ ∃ (I4 : Tup [(3, .slice), (5, (.int .i64))] → World → Prop) (μ4 : Tup [(3, .slice), (5, (.int .i64))] → World → Nat), I4 ((none, 0, 0), (IntKind.wrap .i64 (Int.tdiv (l17 : Int) 2)), ()) w ∧
 ∀ (junk4 : St) (a3 : Option Addr) (l3 c3 : Nat) (n5 : Int) (wL4 : World), I4 ((a3, l3, c3), n5, ()) wL4 →
 bcase (decide (n5 < (l17 : Int))) (
  ∃ (I8 : Tup [(6, .bool), (7, (.int .i64))] → World → Prop) (μ8 : Tup [(6, .bool), (7, (.int .i64))] → World → Nat), I8 (false, 0, ()) wL4 ∧
  ∀ (junk8 : St) (b6 : Bool) (n7 : Int) (wL8 : World), I8 (b6, n7, ()) wL8 →
  ptrW p0 fun a28 =>
  ∃ p30 : Option Addr, wL8.cell? (a28.add 1) = some (.pointer p30) ∧
  ptrW p30 fun a31 =>
  ∃ (a33 : Option Addr) (l33 c33 : Nat), wL8.cell? (a31.add 0) = some (.slice a33 l33 c33) ∧
  bcase (decide (n7 < (l33 : Int))) (
   bcase b6 (
    I8 (true, (IntKind.wrap .i64 (n7 + 1)), ()) wL8 ∧ μ8 (true, (IntKind.wrap .i64 (n7 + 1)), ()) wL8 < μ8 (b6, n7, ()) wL8)
   (ptrW p0 fun a41 =>
    ∃ p43 : Option Addr, wL8.cell? (a41.add 1) = some (.pointer p43) ∧
    ptrW p43 fun a44 =>
    ∃ (a46 : Option Addr) (l46 c46 : Nat), wL8.cell? (a44.add 0) = some (.slice a46 l46 c46) ∧
    (0 ≤ n7 ∧ n7 < (l46 : Int)) ∧
    ptrW a46 fun a48 =>
    ∃ n50 : Int, wL8.cell? ((a48.add (n7.toNat * 4)).add 2) = some (.int .i64 n50) ∧
    I8 ((n50 == n5), (IntKind.wrap .i64 (n7 + 1)), ()) wL8 ∧ μ8 ((n50 == n5), (IntKind.wrap .i64 (n7 + 1)), ()) wL8 < μ8 (b6, n7, ()) wL8))
  (bcase (!b6) (
    ∃ (a58 : Option Addr) (l58 c58 : Nat), ∃ w58, (Instr.buildSlice T.«l_i64» 1 ⟨[(0, .int .i64 n5)]⟩).run P wL8 = .ok (.slice a58 l58 c58) w58 ∧
    ∃ (a59 : Option Addr) (l59 c59 : Nat), ∃ w59, (Builtin.append_ ⟨[T.«l_i64», T.«l_i64»]⟩ T.«l_i64» ⟨[.slice a3 l3 c3, .slice a58 l58 c58]⟩).run P w58 = .ok (.slice a59 l59 c59) w59 ∧
    I4 ((a59, l59, c59), (IntKind.wrap .i64 (n5 + 1)), ()) w59 ∧ μ4 ((a59, l59, c59), (IntKind.wrap .i64 (n5 + 1)), ()) w59 < μ4 ((a3, l3, c3), n5, ()) wL4)
   (I4 ((a3, l3, c3), (IntKind.wrap .i64 (n5 + 1)), ()) wL8 ∧ μ4 ((a3, l3, c3), (IntKind.wrap .i64 (n5 + 1)), ()) wL8 < μ4 ((a3, l3, c3), n5, ()) wL4)))
 (R (.returned (.slice a3 l3 c3)) wL4)
def plan_revertref17_Pool_free : Plan := { loops := fun i => match i with | 64 => ([(3, .slice), (5, (.int .i64))], [3, 5, 6, 7, 21, 22, 23, 24, 25, 26, 27, 28, 29, 30, 31, 32, 33, 34, 35, 36, 37, 38, 39, 40, 41, 42, 43, 44, 45, 46, 47, 48, 49, 50, 51, 52, 53, 54, 55, 56, 57, 58, 59]) | 128 => ([(6, .bool), (7, (.int .i64))], [6, 7, 26, 27, 28, 29, 30, 31, 32, 33, 34, 35, 36, 37, 38, 39, 40, 41, 42, 43, 44, 45, 46, 47, 48, 49, 50, 51, 52, 53]) | _ => ([], []), cuts := fun i => match i with | _ => none, head := fun i => match i with | _ => none, rng := fun i => match i with | _ => [] }
theorem ok_revertref17_Pool_free {p0 : Option Addr} {R : Ending → World → Prop} {w : World} (h : V_revertref17_Pool_free p0 R w) : Calls P F.«revertref17_Pool_free» ⟨[.pointer p0]⟩ w R :=
  calls_of_vc tabOk bdOk mixed (fn := Tryz.f71) (c := bodyOf Tryz.f71) (pl := plan_revertref17_Pool_free) Tryz.func71 (by kernel_rfl) (Nat.le_of_ble_eq_true (by kernel_rfl)) (by kernel_rfl)
    (Eq.mp (show V_revertref17_Pool_free p0 R w = vcFun P Tb Bd plan_revertref17_Pool_free (raw Tryz.f71.ntmps) Tryz.f71.results.toList (bodyOf Tryz.f71) [.pointer p0] R w by kernel_rfl) h)

def V_revertref12_Line_Read (l0 : Option Addr) (atx1 : Int) (R : Ending → World → Prop) (w : World) : Prop :=
 ptrW l0 fun a7 =>
 ∃ b9 : Bool, w.cell? (a7.add 4) = some (.bool b9) ∧
 bcase b9 (
  R (.returned (.tuple ⟨[.string (bs []), .int .i64 8]⟩)) w)
 (ptrW l0 fun a11 =>
  ∃ p13 : Option Addr, w.cell? (a11.add 0) = some (.pointer p13) ∧
  Calls P F.«revertref11_Device_Read» ⟨[.pointer p13, .int .i64 atx1]⟩ w fun e15 w15 => ∃ s15_a : ByteArray, ∃ n15_b : Int, e15 = .returned (.tuple ⟨[.string s15_a, .int .i64 n15_b]⟩) ∧
  R (.returned (.tuple ⟨[.string s15_a, .int .i64 n15_b]⟩)) w15)
def plan_revertref12_Line_Read : Plan := { loops := fun i => match i with | _ => ([], []), cuts := fun i => match i with | _ => none, head := fun i => match i with | _ => none, rng := fun i => match i with | _ => [] }
theorem ok_revertref12_Line_Read {l0 : Option Addr} {atx1 : Int} {R : Ending → World → Prop} {w : World} (h : V_revertref12_Line_Read l0 atx1 R w) : Calls P F.«revertref12_Line_Read» ⟨[.pointer l0, .int .i64 atx1]⟩ w R :=
  calls_of_vc tabOk bdOk mixed (fn := Tryz.f72) (c := bodyOf Tryz.f72) (pl := plan_revertref12_Line_Read) Tryz.func72 (by kernel_rfl) (Nat.le_of_ble_eq_true (by kernel_rfl)) (by kernel_rfl)
    (Eq.mp (show V_revertref12_Line_Read l0 atx1 R w = vcFun P Tb Bd plan_revertref12_Line_Read (raw Tryz.f72.ntmps) Tryz.f72.results.toList (bodyOf Tryz.f72) [.pointer l0, .int .i64 atx1] R w by kernel_rfl) h)

def V_revertref16_Table_Load (t0 : Option Addr) (x1_0 : Int) (x1_1 : ByteArray) (x1_2 : Int) (x1_3 : Int) (R : Ending → World → Prop) (w : World) : Prop :=
 letW (w.alloc (.cells ⟨[.int .u32 x1_0, .string x1_1, .int .i64 x1_2, .int .i64 x1_3]⟩ T.«revertref16_Chunk»)) fun u0 =>
 ∃ n6 : Int, u0.cell? ((⟨w.heap.size, 0, none⟩ : Addr).add 0) = some (.int .u32 n6) ∧
 bcase (n6 == 0) (
  R (.returned (.int .i64 2)) u0)
 (∃ n10 : Int, u0.cell? ((⟨w.heap.size, 0, none⟩ : Addr).add 0) = some (.int .u32 n10) ∧
  bcase (n10 == 4294967295) (
   R (.returned (.int .i64 2)) u0)
  (∃ s14 : ByteArray, u0.cell? ((⟨w.heap.size, 0, none⟩ : Addr).add 1) = some (.string s14) ∧
   bcase (decide ((s14.size : Int) < 1)) (
    R (.returned (.int .i64 4)) u0)
   (∃ s19 : ByteArray, u0.cell? ((⟨w.heap.size, 0, none⟩ : Addr).add 1) = some (.string s19) ∧
    bcase (decide ((s19.size : Int) > 64)) (
     R (.returned (.int .i64 4)) u0)
    (∃ n25 : Int, u0.cell? ((⟨w.heap.size, 0, none⟩ : Addr).add 3) = some (.int .i64 n25) ∧
     bcase (decide (n25 < 1)) (
      R (.returned (.int .i64 4)) u0)
     (∃ n30 : Int, u0.cell? ((⟨w.heap.size, 0, none⟩ : Addr).add 3) = some (.int .i64 n30) ∧
      bcase (decide (n30 > 65535)) (
       R (.returned (.int .i64 4)) u0)
      (∃ n35 : Int, u0.cell? ((⟨w.heap.size, 0, none⟩ : Addr).add 0) = some (.int .u32 n35) ∧
       Calls P F.«revertref16_Table_At» ⟨[.pointer t0, .int .u32 n35]⟩ u0 fun e36 w36 => ∃ n36 : Int, e36 = .returned (.int .i64 n36) ∧
       bcase (decide (n36 ≥ 0)) (
        R (.returned (.int .i64 6)) w36)
       (∃ s41 : ByteArray, w36.cell? ((⟨w.heap.size, 0, none⟩ : Addr).add 1) = some (.string s41) ∧
        Calls P F.«revertref16_Table_Find» ⟨[.pointer t0, .string s41]⟩ w36 fun e42 w42 => ∃ n42 : Int, e42 = .returned (.int .i64 n42) ∧
        bcase (decide (n42 ≥ 0)) (
         R (.returned (.int .i64 6)) w42)
        (∃ n46_0 : Int, ∃ s46_1 : ByteArray, ∃ n46_2 : Int, ∃ n46_3 : Int, (w42.cell? ((⟨w.heap.size, 0, none⟩ : Addr).add 0) = some (.int .u32 n46_0) ∧ w42.cell? ((⟨w.heap.size, 0, none⟩ : Addr).add 1) = some (.string s46_1) ∧ w42.cell? ((⟨w.heap.size, 0, none⟩ : Addr).add 2) = some (.int .i64 n46_2) ∧ w42.cell? ((⟨w.heap.size, 0, none⟩ : Addr).add 3) = some (.int .i64 n46_3) ∧ True) ∧
         Calls P F.«revertref16_Table_put» ⟨[.pointer t0, .agg ⟨[.int .u32 n46_0, .string s46_1, .int .i64 n46_2, .int .i64 n46_3]⟩]⟩ w42 fun e47 w47 => e47 = .returned (.tuple ⟨[]⟩) ∧
         R (.returned (.int .i64 0)) w47))))))))
def plan_revertref16_Table_Load : Plan := { loops := fun i => match i with | _ => ([], []), cuts := fun i => match i with | _ => none, head := fun i => match i with | _ => none, rng := fun i => match i with | _ => [] }
theorem ok_revertref16_Table_Load {t0 : Option Addr} {x1_0 : Int} {x1_1 : ByteArray} {x1_2 : Int} {x1_3 : Int} {R : Ending → World → Prop} {w : World} (h : V_revertref16_Table_Load t0 x1_0 x1_1 x1_2 x1_3 R w) : Calls P F.«revertref16_Table_Load» ⟨[.pointer t0, .agg ⟨[.int .u32 x1_0, .string x1_1, .int .i64 x1_2, .int .i64 x1_3]⟩]⟩ w R :=
  calls_of_vc tabOk bdOk mixed (fn := Tryz.f73) (c := bodyOf Tryz.f73) (pl := plan_revertref16_Table_Load) Tryz.func73 (by kernel_rfl) (Nat.le_of_ble_eq_true (by kernel_rfl)) (by kernel_rfl)
    (Eq.mp (show V_revertref16_Table_Load t0 x1_0 x1_1 x1_2 x1_3 R w = vcFun P Tb Bd plan_revertref16_Table_Load (raw Tryz.f73.ntmps) Tryz.f73.results.toList (bodyOf Tryz.f73) [.pointer t0, .agg ⟨[.int .u32 x1_0, .string x1_1, .int .i64 x1_2, .int .i64 x1_3]⟩] R w by kernel_rfl) h)

def V_revertref16_Table_Skip (t0 : Option Addr) (next1 : Int) (R : Ending → World → Prop) (w : World) : Prop :=
 ptrW t0 fun a6 =>
 ∃ n8 : Int, w.cell? (a6.add 1) = some (.int .u32 n8) ∧
 bcase (decide (next1 > n8)) (
  ptrW t0 fun a12 =>
  (∃ old, w.cell? ((a12.add 1).add 0) = some old) ∧ w.frozen? ((a12.add 1).add 0) = false ∧
  letW (w.setCell ((a12.add 1).add 0) (.int .u32 next1)) fun u0 =>
  R (.returned (.tuple ⟨[]⟩)) u0)
 (R (.returned (.tuple ⟨[]⟩)) w)
def plan_revertref16_Table_Skip : Plan := { loops := fun i => match i with | _ => ([], []), cuts := fun i => match i with | _ => none, head := fun i => match i with | _ => none, rng := fun i => match i with | _ => [] }
theorem ok_revertref16_Table_Skip {t0 : Option Addr} {next1 : Int} {R : Ending → World → Prop} {w : World} (h : V_revertref16_Table_Skip t0 next1 R w) : Calls P F.«revertref16_Table_Skip» ⟨[.pointer t0, .int .u32 next1]⟩ w R :=
  calls_of_vc tabOk bdOk mixed (fn := Tryz.f74) (c := bodyOf Tryz.f74) (pl := plan_revertref16_Table_Skip) Tryz.func74 (by kernel_rfl) (Nat.le_of_ble_eq_true (by kernel_rfl)) (by kernel_rfl)
    (Eq.mp (show V_revertref16_Table_Skip t0 next1 R w = vcFun P Tb Bd plan_revertref16_Table_Skip (raw Tryz.f74.ntmps) Tryz.f74.results.toList (bodyOf Tryz.f74) [.pointer t0, .int .u32 next1] R w by kernel_rfl) h)

def V_revertref16_Table_At (t0 : Option Addr) (id1 : Int) (R : Ending → World → Prop) (w : World) : Prop :=
 ∃ (I2 : Tup [(5, (.int .i64))] → World → Prop) (μ2 : Tup [(5, (.int .i64))] → World → Nat), I2 (0, ()) w ∧
 ∀ (junk2 : St) (n5 : Int) (wL2 : World), I2 (n5, ()) wL2 →
 ptrW t0 fun a8 =>
 ∃ (a10 : Option Addr) (l10 c10 : Nat), wL2.cell? (a8.add 0) = some (.slice a10 l10 c10) ∧
 bcase (decide (n5 < (l10 : Int))) (
  ptrW t0 fun a16 =>
  ∃ (a18 : Option Addr) (l18 c18 : Nat), wL2.cell? (a16.add 0) = some (.slice a18 l18 c18) ∧
  (0 ≤ n5 ∧ n5 < (l18 : Int)) ∧
  ptrW a18 fun a20 =>
  ∃ n22 : Int, wL2.cell? ((a20.add (n5.toNat * 4)).add 0) = some (.int .u32 n22) ∧
  bcase (n22 == id1) (
   R (.returned (.int .i64 n5)) wL2)
  (I2 ((IntKind.wrap .i64 (n5 + 1)), ()) wL2 ∧ μ2 ((IntKind.wrap .i64 (n5 + 1)), ()) wL2 < μ2 (n5, ()) wL2))
 (R (.returned (.int .i64 (-1))) wL2)
def plan_revertref16_Table_At : Plan := { loops := fun i => match i with | 32 => ([(5, (.int .i64))], [4, 5, 6, 7, 8, 9, 10, 11, 12, 13, 14, 15, 16, 17, 18, 19, 20, 21, 22, 23, 24, 25]) | _ => ([], []), cuts := fun i => match i with | _ => none, head := fun i => match i with | _ => none, rng := fun i => match i with | _ => [] }
theorem ok_revertref16_Table_At {t0 : Option Addr} {id1 : Int} {R : Ending → World → Prop} {w : World} (h : V_revertref16_Table_At t0 id1 R w) : Calls P F.«revertref16_Table_At» ⟨[.pointer t0, .int .u32 id1]⟩ w R :=
  calls_of_vc tabOk bdOk mixed (fn := Tryz.f78) (c := bodyOf Tryz.f78) (pl := plan_revertref16_Table_At) Tryz.func78 (by kernel_rfl) (Nat.le_of_ble_eq_true (by kernel_rfl)) (by kernel_rfl)
    (Eq.mp (show V_revertref16_Table_At t0 id1 R w = vcFun P Tb Bd plan_revertref16_Table_At (raw Tryz.f78.ntmps) Tryz.f78.results.toList (bodyOf Tryz.f78) [.pointer t0, .int .u32 id1] R w by kernel_rfl) h)

def V_revertref17_chunk (x0_0 : Int) (x0_1 : ByteArray) (x0_2 : Int) (x0_3 : Int) (R : Ending → World → Prop) (w : World) : Prop :=
 letW (w.alloc (.cells ⟨[.int .u32 x0_0, .string x0_1, .int .i64 x0_2, .int .i64 x0_3]⟩ T.«revertref16_Chunk»)) fun u0 =>
 letW (u0.alloc (.cells ⟨[(.int .u32 0), (.int .i64 0), (.int .i64 0), (.int .i64 0)]⟩ T.«revertref17_Chunk»)) fun u0_1 =>
 ∃ n4 : Int, u0_1.cell? ((⟨w.heap.size, 0, none⟩ : Addr).add 0) = some (.int .u32 n4) ∧
 ∃ n6 : Int, u0_1.cell? ((⟨w.heap.size, 0, none⟩ : Addr).add 2) = some (.int .i64 n6) ∧
 ∃ n8 : Int, u0_1.cell? ((⟨w.heap.size, 0, none⟩ : Addr).add 3) = some (.int .i64 n8) ∧
 ∃ s10 : ByteArray, u0_1.cell? ((⟨w.heap.size, 0, none⟩ : Addr).add 1) = some (.string s10) ∧
 (∃ old, u0_1.cell? ((⟨u0.heap.size, 0, none⟩ : Addr).add 0) = some old) ∧ u0_1.frozen? ((⟨u0.heap.size, 0, none⟩ : Addr).add 0) = false ∧
 letW (u0_1.setCell ((⟨u0.heap.size, 0, none⟩ : Addr).add 0) (.int .u32 n4)) fun u0_2 =>
 (∃ old, u0_2.cell? ((⟨u0.heap.size, 0, none⟩ : Addr).add 1) = some old) ∧ u0_2.frozen? ((⟨u0.heap.size, 0, none⟩ : Addr).add 1) = false ∧
 letW (u0_2.setCell ((⟨u0.heap.size, 0, none⟩ : Addr).add 1) (.int .i64 n6)) fun u0_3 =>
 (∃ old, u0_3.cell? ((⟨u0.heap.size, 0, none⟩ : Addr).add 2) = some old) ∧ u0_3.frozen? ((⟨u0.heap.size, 0, none⟩ : Addr).add 2) = false ∧
 letW (u0_3.setCell ((⟨u0.heap.size, 0, none⟩ : Addr).add 2) (.int .i64 n8)) fun u0_4 =>
 (∃ old, u0_4.cell? ((⟨u0.heap.size, 0, none⟩ : Addr).add 3) = some old) ∧ u0_4.frozen? ((⟨u0.heap.size, 0, none⟩ : Addr).add 3) = false ∧
 letW (u0_4.setCell ((⟨u0.heap.size, 0, none⟩ : Addr).add 3) (.int .i64 (s10.size : Int))) fun u0_5 =>
 ∃ nr0_0 : Int, ∃ nr0_1 : Int, ∃ nr0_2 : Int, ∃ nr0_3 : Int, (u0_5.cell? ((⟨u0.heap.size, 0, none⟩ : Addr).add 0) = some (.int .u32 nr0_0) ∧ u0_5.cell? ((⟨u0.heap.size, 0, none⟩ : Addr).add 1) = some (.int .i64 nr0_1) ∧ u0_5.cell? ((⟨u0.heap.size, 0, none⟩ : Addr).add 2) = some (.int .i64 nr0_2) ∧ u0_5.cell? ((⟨u0.heap.size, 0, none⟩ : Addr).add 3) = some (.int .i64 nr0_3) ∧ True) ∧
 R (.returned (.agg ⟨[.int .u32 nr0_0, .int .i64 nr0_1, .int .i64 nr0_2, .int .i64 nr0_3]⟩)) u0_5
def plan_revertref17_chunk : Plan := { loops := fun i => match i with | _ => ([], []), cuts := fun i => match i with | _ => none, head := fun i => match i with | _ => none, rng := fun i => match i with | _ => [] }
theorem ok_revertref17_chunk {x0_0 : Int} {x0_1 : ByteArray} {x0_2 : Int} {x0_3 : Int} {R : Ending → World → Prop} {w : World} (h : V_revertref17_chunk x0_0 x0_1 x0_2 x0_3 R w) : Calls P F.«revertref17_chunk» ⟨[.agg ⟨[.int .u32 x0_0, .string x0_1, .int .i64 x0_2, .int .i64 x0_3]⟩]⟩ w R :=
  calls_of_vc tabOk bdOk mixed (fn := Tryz.f79) (c := bodyOf Tryz.f79) (pl := plan_revertref17_chunk) Tryz.func79 (by kernel_rfl) (Nat.le_of_ble_eq_true (by kernel_rfl)) (by kernel_rfl)
    (Eq.mp (show V_revertref17_chunk x0_0 x0_1 x0_2 x0_3 R w = vcFun P Tb Bd plan_revertref17_chunk (raw Tryz.f79.ntmps) Tryz.f79.results.toList (bodyOf Tryz.f79) [.agg ⟨[.int .u32 x0_0, .string x0_1, .int .i64 x0_2, .int .i64 x0_3]⟩] R w by kernel_rfl) h)

def V_dedup_Table_Next (t0 : Option Addr) (R : Ending → World → Prop) (w : World) : Prop :=
 Calls P F.«dedup_Table_is» ⟨[.pointer t0]⟩ w fun e4 w4 => ∃ b4 : Bool, e4 = .returned (.bool b4) ∧
 bcase (!b4) (
  R (.returned (.int .u32 0)) w4)
 (ptrW t0 fun a7 =>
  ∃ n9 : Int, w4.cell? (a7.add 2) = some (.int .u32 n9) ∧
  R (.returned (.int .u32 n9)) w4)
def plan_dedup_Table_Next : Plan := { loops := fun i => match i with | _ => ([], []), cuts := fun i => match i with | _ => none, head := fun i => match i with | _ => none, rng := fun i => match i with | _ => [] }
theorem ok_dedup_Table_Next {t0 : Option Addr} {R : Ending → World → Prop} {w : World} (h : V_dedup_Table_Next t0 R w) : Calls P F.«dedup_Table_Next» ⟨[.pointer t0]⟩ w R :=
  calls_of_vc tabOk bdOk mixed (fn := Tryz.f80) (c := bodyOf Tryz.f80) (pl := plan_dedup_Table_Next) Tryz.func80 (by kernel_rfl) (Nat.le_of_ble_eq_true (by kernel_rfl)) (by kernel_rfl)
    (Eq.mp (show V_dedup_Table_Next t0 R w = vcFun P Tb Bd plan_dedup_Table_Next (raw Tryz.f80.ntmps) Tryz.f80.results.toList (bodyOf Tryz.f80) [.pointer t0] R w by kernel_rfl) h)

def V_revertref16_New  (R : Ending → World → Prop) (w : World) : Prop :=
 letW (w.alloc (.cells ⟨[.slice none 0 0, .int .u32 1]⟩ T.«revertref16_Table»)) fun u0 =>
 R (.returned (.pointer (some ⟨w.heap.size, 0, none⟩))) u0
def plan_revertref16_New : Plan := { loops := fun i => match i with | _ => ([], []), cuts := fun i => match i with | _ => none, head := fun i => match i with | _ => none, rng := fun i => match i with | _ => [] }
theorem ok_revertref16_New  {R : Ending → World → Prop} {w : World} (h : V_revertref16_New  R w) : Calls P F.«revertref16_New» ⟨[]⟩ w R :=
  calls_of_vc tabOk bdOk mixed (fn := Tryz.f81) (c := bodyOf Tryz.f81) (pl := plan_revertref16_New) Tryz.func81 (by kernel_rfl) (Nat.le_of_ble_eq_true (by kernel_rfl)) (by kernel_rfl)
    (Eq.mp (show V_revertref16_New  R w = vcFun P Tb Bd plan_revertref16_New (raw Tryz.f81.ntmps) Tryz.f81.results.toList (bodyOf Tryz.f81) [] R w by kernel_rfl) h)

def V_revertref16_Table_Copy (t0 : Option Addr) (R : Ending → World → Prop) (w : World) : Prop :=
 ptrW t0 fun a5 =>
 ∃ n7 : Int, w.cell? (a5.add 1) = some (.int .u32 n7) ∧
 letW (w.alloc (.cells ⟨[.slice none 0 0, .int .u32 n7]⟩ T.«revertref16_Table»)) fun u0 =>
 ∃ (a14 : Option Addr) (l14 c14 : Nat), u0.cell? ((⟨w.heap.size, 0, none⟩ : Addr).add 0) = some (.slice a14 l14 c14) ∧
 ptrW t0 fun a16 =>
 ∃ (a18 : Option Addr) (l18 c18 : Nat), u0.cell? (a16.add 0) = some (.slice a18 l18 c18) ∧
 ∀ wd2, Drew u0 wd2 →
 ∃ (a19 : Option Addr) (l19 c19 : Nat), ∃ w19, (Builtin.append_ ⟨[T.«l_revertref16_Chunk», T.«l_revertref16_Chunk»]⟩ T.«l_revertref16_Chunk» ⟨[.slice a14 l14 c14, .slice a18 l18 c18]⟩).run P wd2 = .ok (.slice a19 l19 c19) w19 ∧
 (∃ old, w19.cell? (((⟨w.heap.size, 0, none⟩ : Addr).add 0).add 0) = some old) ∧ w19.frozen? (((⟨w.heap.size, 0, none⟩ : Addr).add 0).add 0) = false ∧
 letW (w19.setCell (((⟨w.heap.size, 0, none⟩ : Addr).add 0).add 0) (.slice a19 l19 c19)) fun u0_1 =>
 R (.returned (.pointer (some ⟨w.heap.size, 0, none⟩))) u0_1
def plan_revertref16_Table_Copy : Plan := { loops := fun i => match i with | _ => ([], []), cuts := fun i => match i with | _ => none, head := fun i => match i with | 2 => some ([0], [1, 2, 3, 4, 5, 6, 7, 8], [9, 10, 11, 12]) | _ => none, rng := fun i => match i with | _ => [] }
theorem ok_revertref16_Table_Copy {t0 : Option Addr} {R : Ending → World → Prop} {w : World} (h : V_revertref16_Table_Copy t0 R w) : Calls P F.«revertref16_Table_Copy» ⟨[.pointer t0]⟩ w R :=
  calls_of_vc tabOk bdOk mixed (fn := Tryz.f82) (c := bodyOf Tryz.f82) (pl := plan_revertref16_Table_Copy) Tryz.func82 (by kernel_rfl) (Nat.le_of_ble_eq_true (by kernel_rfl)) (by kernel_rfl)
    (Eq.mp (show V_revertref16_Table_Copy t0 R w = vcFun P Tb Bd plan_revertref16_Table_Copy (raw Tryz.f82.ntmps) Tryz.f82.results.toList (bodyOf Tryz.f82) [.pointer t0] R w by kernel_rfl) h)

def V_pool_Plan_Hold (q0 : Option Addr) (ids1 : Option Addr) (ids1l ids1c : Nat) (R : Ending → World → Prop) (w : World) : Prop :=
 letW (w.alloc (.cells ⟨[.pointer q0]⟩ T.«p_pool_Plan»)) fun u0 =>
 ∃ p5 : Option Addr, u0.cell? ⟨w.heap.size, 0, none⟩ = some (.pointer p5) ∧
 Calls P F.«pool_Plan_each» ⟨[.pointer p5, .slice ids1 ids1l ids1c, .func (.func F.«pool_Plan_Hold_1») ⟨[]⟩ ⟨[.pointer (some ⟨w.heap.size, 0, none⟩)]⟩]⟩ u0 fun e8 w8 => ∃ n8 : Int, e8 = .returned (.int .i64 n8) ∧
 R (.returned (.int .i64 n8)) w8
def plan_pool_Plan_Hold : Plan := { loops := fun i => match i with | _ => ([], []), cuts := fun i => match i with | _ => none, head := fun i => match i with | _ => none, rng := fun i => match i with | _ => [] }
theorem ok_pool_Plan_Hold {q0 : Option Addr} {ids1 : Option Addr} {ids1l ids1c : Nat} {R : Ending → World → Prop} {w : World} (h : V_pool_Plan_Hold q0 ids1 ids1l ids1c R w) : Calls P F.«pool_Plan_Hold» ⟨[.pointer q0, .slice ids1 ids1l ids1c]⟩ w R :=
  calls_of_vc tabOk bdOk mixed (fn := Tryz.f83) (c := bodyOf Tryz.f83) (pl := plan_pool_Plan_Hold) Tryz.func83 (by kernel_rfl) (Nat.le_of_ble_eq_true (by kernel_rfl)) (by kernel_rfl)
    (Eq.mp (show V_pool_Plan_Hold q0 ids1 ids1l ids1c R w = vcFun P Tb Bd plan_pool_Plan_Hold (raw Tryz.f83.ntmps) Tryz.f83.results.toList (bodyOf Tryz.f83) [.pointer q0, .slice ids1 ids1l ids1c] R w by kernel_rfl) h)

def V_slices_AppendSeq_sl_uint32_uint32 (s0 : Option Addr) (s0l s0c : Nat) (seq1 : Value) (R : Ending → World → Prop) (w : World) : Prop :=
 letW (w.alloc (.cells ⟨[.slice s0 s0l s0c]⟩ T.«l_u32»)) fun u0 =>
 onFunc seq1 fun gf first caps => bW (Bd gf) (∀ (y : Value) (rec : LoopState → Option Code → Obj),
  (∀ R' : Ending → World → Prop, ∀ (n7 : Int), ∀ (wr : World), wr.heap[(u0.heap.size + 1)]? = some (rec .ready none) →
   (wr.heap[(u0.heap.size + 1)]? = some (rec .ready none) ∧
    letW (wr.putObj (u0.heap.size + 1) (rec .busy none)) fun u0_1 =>
    ∃ (a8 : Option Addr) (l8 c8 : Nat), u0_1.cell? ⟨w.heap.size, 0, none⟩ = some (.slice a8 l8 c8) ∧
    ∃ (a10 : Option Addr) (l10 c10 : Nat), ∃ w10, (Instr.buildSlice T.«l_u32» 1 ⟨[(0, .int .u32 n7)]⟩).run P u0_1 = .ok (.slice a10 l10 c10) w10 ∧
    ∃ (a11 : Option Addr) (l11 c11 : Nat), ∃ w11, (Builtin.append_ ⟨[T.«l_u32», T.«l_u32»]⟩ T.«l_u32» ⟨[.slice a8 l8 c8, .slice a10 l10 c10]⟩).run P w10 = .ok (.slice a11 l11 c11) w11 ∧
    (∃ old, w11.cell? ((⟨w.heap.size, 0, none⟩ : Addr).add 0) = some old) ∧ w11.frozen? ((⟨w.heap.size, 0, none⟩ : Addr).add 0) = false ∧
    letW (w11.setCell ((⟨w.heap.size, 0, none⟩ : Addr).add 0) (.slice a11 l11 c11)) fun u0_2 =>
    u0_2.heap[(u0.heap.size + 1)]? = some (rec .busy none) ∧ R' (.returned (.bool true)) (u0_2.putObj (u0.heap.size + 1) (rec .ready none))) → callV P Bd y [.int .u32 n7] wr R') →
  Calls P gf ⟨first ++ [y] ++ caps⟩ ((u0.alloc (.deferred (some []))).alloc (rec .ready none)) fun ef wf => (∃ v, ef = .returned v) ∧
  (((∃ stj, stj ≠ .busy ∧ wf.heap[(u0.heap.size + 1)]? = some (rec stj none) ∧
     letW (wf.putObj (u0.heap.size + 1) (rec .exhausted none)) fun u0_3 =>
     ∃ (a12 : Option Addr) (l12 c12 : Nat), u0_3.cell? ⟨w.heap.size, 0, none⟩ = some (.slice a12 l12 c12) ∧
     u0_3.heap[u0.heap.size]? = some (.deferred (some [])) ∧
     letW (u0_3.putObj u0.heap.size (.deferred none)) fun u0_4 =>
     R (.returned (.slice a12 l12 c12)) u0_4) ∨ (∃ stj, stj ≠ .busy ∧ wf.heap[(u0.heap.size + 1)]? = some (rec stj (some .ret)) ∧
     letW (wf.putObj (u0.heap.size + 1) (rec .exhausted (some .ret))) fun u0_5 =>
     u0_5.heap[u0.heap.size]? = some (.deferred (some [])) ∧
     letW (u0_5.putObj u0.heap.size (.deferred none)) fun u0_6 =>
     R (.returned (.slice none 0 0)) u0_6))))
def plan_slices_AppendSeq_sl_uint32_uint32 : Plan := { loops := fun i => match i with | _ => ([], []), cuts := fun i => match i with | _ => none, head := fun i => match i with | _ => none, rng := fun i => match i with | 3 => [(.int .u32)] | _ => [] }
theorem ok_slices_AppendSeq_sl_uint32_uint32 {s0 : Option Addr} {s0l s0c : Nat} {seq1 : Value} {R : Ending → World → Prop} {w : World} (h : V_slices_AppendSeq_sl_uint32_uint32 s0 s0l s0c seq1 R w) : Calls P F.«slices_AppendSeq_sl_uint32_uint32» ⟨[.slice s0 s0l s0c, seq1]⟩ w R :=
  calls_of_vc tabOk bdOk mixed (fn := Tryz.f89) (c := bodyOf Tryz.f89) (pl := plan_slices_AppendSeq_sl_uint32_uint32) Tryz.func89 (by kernel_rfl) (Nat.le_of_ble_eq_true (by kernel_rfl)) (by kernel_rfl)
    (Eq.mp (show V_slices_AppendSeq_sl_uint32_uint32 s0 s0l s0c seq1 R w = vcFun P Tb Bd plan_slices_AppendSeq_sl_uint32_uint32 (raw Tryz.f89.ntmps) Tryz.f89.results.toList (bodyOf Tryz.f89) [.slice s0 s0l s0c, seq1] R w by kernel_rfl) h)

def V_slices_Collect_uint32 (seq0 : Value) (R : Ending → World → Prop) (w : World) : Prop :=
 Calls P F.«slices_AppendSeq_sl_uint32_uint32» ⟨[.slice none 0 0, seq0]⟩ w fun e4 w4 => ∃ (a4 : Option Addr) (l4 c4 : Nat), e4 = .returned (.slice a4 l4 c4) ∧
 R (.returned (.slice a4 l4 c4)) w4
def plan_slices_Collect_uint32 : Plan := { loops := fun i => match i with | _ => ([], []), cuts := fun i => match i with | _ => none, head := fun i => match i with | _ => none, rng := fun i => match i with | _ => [] }
theorem ok_slices_Collect_uint32 {seq0 : Value} {R : Ending → World → Prop} {w : World} (h : V_slices_Collect_uint32 seq0 R w) : Calls P F.«slices_Collect_uint32» ⟨[seq0]⟩ w R :=
  calls_of_vc tabOk bdOk mixed (fn := Tryz.f90) (c := bodyOf Tryz.f90) (pl := plan_slices_Collect_uint32) Tryz.func90 (by kernel_rfl) (Nat.le_of_ble_eq_true (by kernel_rfl)) (by kernel_rfl)
    (Eq.mp (show V_slices_Collect_uint32 seq0 R w = vcFun P Tb Bd plan_slices_Collect_uint32 (raw Tryz.f90.ntmps) Tryz.f90.results.toList (bodyOf Tryz.f90) [seq0] R w by kernel_rfl) h)

def V_slices_Sort_sl_uint32_uint32 (x0 : Option Addr) (x0l x0c : Nat) (R : Ending → World → Prop) (w : World) : Prop :=
 Calls P F.«math_bits_Len» ⟨[.int .u64 (IntKind.wrap .u64 (x0l : Int))]⟩ w fun e9 w9 => ∃ n9 : Int, e9 = .returned (.int .i64 n9) ∧
 Calls P F.«slices_pdqsortOrdered_uint32» ⟨[.slice x0 x0l x0c, .int .i64 0, .int .i64 (x0l : Int), .int .i64 n9]⟩ w9 fun e10 w10 => e10 = .returned (.tuple ⟨[]⟩) ∧
 R (.returned (.tuple ⟨[]⟩)) w10
def plan_slices_Sort_sl_uint32_uint32 : Plan := { loops := fun i => match i with | _ => ([], []), cuts := fun i => match i with | _ => none, head := fun i => match i with | _ => none, rng := fun i => match i with | _ => [] }
theorem ok_slices_Sort_sl_uint32_uint32 {x0 : Option Addr} {x0l x0c : Nat} {R : Ending → World → Prop} {w : World} (h : V_slices_Sort_sl_uint32_uint32 x0 x0l x0c R w) : Calls P F.«slices_Sort_sl_uint32_uint32» ⟨[.slice x0 x0l x0c]⟩ w R :=
  calls_of_vc tabOk bdOk mixed (fn := Tryz.f91) (c := bodyOf Tryz.f91) (pl := plan_slices_Sort_sl_uint32_uint32) Tryz.func91 (by kernel_rfl) (Nat.le_of_ble_eq_true (by kernel_rfl)) (by kernel_rfl)
    (Eq.mp (show V_slices_Sort_sl_uint32_uint32 x0 x0l x0c R w = vcFun P Tb Bd plan_slices_Sort_sl_uint32_uint32 (raw Tryz.f91.ntmps) Tryz.f91.results.toList (bodyOf Tryz.f91) [.slice x0 x0l x0c] R w by kernel_rfl) h)

def V_slices_Compact_sl_uint32_uint32 (s0 : Option Addr) (s0l s0c : Nat) (R : Ending → World → Prop) (w : World) : Prop :=
 bcase (decide ((s0l : Int) < 2)) (
  R (.returned (.slice s0 s0l s0c)) w)
 (∃ (I4 : Tup [(3, (.int .i64))] → World → Prop) (μ4 : Tup [(3, (.int .i64))] → World → Nat), I4 (1, ()) w ∧
  ∀ (junk4 : St) (n3 : Int) (wL4 : World), I4 (n3, ()) wL4 →
  bcase (decide (n3 < (s0l : Int))) (
   (0 ≤ n3 ∧ n3 < (s0l : Int)) ∧
   ptrW s0 fun a18 =>
   ∃ n19 : Int, wL4.cell? (a18.add (n3.toNat * 1)) = some (.int .u32 n19) ∧
   (0 ≤ (IntKind.wrap .i64 (n3 - 1)) ∧ (IntKind.wrap .i64 (n3 - 1)) < (s0l : Int)) ∧
   ptrW s0 fun a23 =>
   ∃ n24 : Int, wL4.cell? (a23.add ((IntKind.wrap .i64 (n3 - 1)).toNat * 1)) = some (.int .u32 n24) ∧
   ∀ wd6, Drew wL4 wd6 →
   bcase (n19 == n24) (
    (0 ≤ n3 ∧ n3 ≤ (s0l : Int) ∧ (s0l : Int) ≤ (s0c : Int) ∧ (s0c : Int) ≤ (s0c : Int)) ∧
    ∃ (I9 : Tup [(3, (.int .i64)), (5, (.int .i64))] → World → Prop) (μ9 : Tup [(3, (.int .i64)), (5, (.int .i64))] → World → Nat), I9 (n3, 1, ()) wd6 ∧
    ∀ (junk9 : St) (n3_1 : Int) (n5 : Int) (wL9 : World), I9 (n3_1, n5, ()) wL9 →
    bcase (decide (n5 < ((((s0l : Int).toNat - n3.toNat) : Nat) : Int))) (
     (0 ≤ n5 ∧ n5 < ((((s0l : Int).toNat - n3.toNat) : Nat) : Int)) ∧
     ptrW (if (s0c : Int).toNat = n3.toNat then s0 else s0.map (·.add (n3.toNat * 1))) fun a37 =>
     ∃ n38 : Int, wL9.cell? (a37.add (n5.toNat * 1)) = some (.int .u32 n38) ∧
     (0 ≤ (IntKind.wrap .i64 (n5 - 1)) ∧ (IntKind.wrap .i64 (n5 - 1)) < ((((s0l : Int).toNat - n3.toNat) : Nat) : Int)) ∧
     ptrW (if (s0c : Int).toNat = n3.toNat then s0 else s0.map (·.add (n3.toNat * 1))) fun a42 =>
     ∃ n43 : Int, wL9.cell? (a42.add ((IntKind.wrap .i64 (n5 - 1)).toNat * 1)) = some (.int .u32 n43) ∧
     ∀ wd11, Drew wL9 wd11 →
     bcase (n38 != n43) (
      (0 ≤ n5 ∧ n5 < ((((s0l : Int).toNat - n3.toNat) : Nat) : Int)) ∧
      ptrW (if (s0c : Int).toNat = n3.toNat then s0 else s0.map (·.add (n3.toNat * 1))) fun a49 =>
      ∃ n50 : Int, wd11.cell? (a49.add (n5.toNat * 1)) = some (.int .u32 n50) ∧
      (0 ≤ n3_1 ∧ n3_1 < (s0l : Int)) ∧
      ptrW s0 fun a51 =>
      (∃ old, wd11.cell? ((a51.add (n3_1.toNat * 1)).add 0) = some old) ∧ wd11.frozen? ((a51.add (n3_1.toNat * 1)).add 0) = false ∧
      letW (wd11.setCell ((a51.add (n3_1.toNat * 1)).add 0) (.int .u32 n50)) fun u0 =>
      I9 ((IntKind.wrap .i64 (n3_1 + 1)), (IntKind.wrap .i64 (n5 + 1)), ()) u0 ∧ μ9 ((IntKind.wrap .i64 (n3_1 + 1)), (IntKind.wrap .i64 (n5 + 1)), ()) u0 < μ9 (n3_1, n5, ()) wL9)
     (I9 (n3_1, (IntKind.wrap .i64 (n5 + 1)), ()) wd11 ∧ μ9 (n3_1, (IntKind.wrap .i64 (n5 + 1)), ()) wd11 < μ9 (n3_1, n5, ()) wL9))
    ((0 ≤ n3_1 ∧ n3_1 ≤ (s0l : Int) ∧ (s0l : Int) ≤ (s0c : Int) ∧ (s0c : Int) ≤ (s0c : Int)) ∧
     ∃ wx3, (Builtin.clear_ ⟨[T.«l_u32»]⟩ T.«tup_» ⟨[.slice (if (s0c : Int).toNat = n3_1.toNat then s0 else s0.map (·.add (n3_1.toNat * 1))) ((s0l : Int).toNat - n3_1.toNat) ((s0c : Int).toNat - n3_1.toNat)]⟩).run P wL9 = .ok (.tuple ⟨[]⟩) wx3 ∧
     (0 ≤ (0 : Int) ∧ (0 : Int) ≤ n3_1 ∧ n3_1 ≤ (s0c : Int) ∧ (s0c : Int) ≤ (s0c : Int)) ∧
     R (.returned (.slice (if (s0c : Int).toNat = (0 : Int).toNat then s0 else s0.map (·.add ((0 : Int).toNat * 1))) (n3_1.toNat - (0 : Int).toNat) ((s0c : Int).toNat - (0 : Int).toNat))) wx3))
   (I4 ((IntKind.wrap .i64 (n3 + 1)), ()) wd6 ∧ μ4 ((IntKind.wrap .i64 (n3 + 1)), ()) wd6 < μ4 (n3, ()) wL4))
  (R (.returned (.slice s0 s0l s0c)) wL4))
def plan_slices_Compact_sl_uint32_uint32 : Plan := { loops := fun i => match i with | 64 => ([(3, (.int .i64))], [2, 3, 4, 5, 10, 11, 12, 13, 14, 15, 16, 17, 18, 19, 20, 21, 22, 23, 24, 25, 26, 27, 28, 29, 30, 31, 32, 33, 34, 35, 36, 37, 38, 39, 40, 41, 42, 43, 44, 45, 46, 47, 48, 49, 50, 51, 52, 53, 54, 55, 56, 57, 58, 59]) | 144 => ([(3, (.int .i64)), (5, (.int .i64))], [3, 5, 29, 30, 31, 32, 33, 34, 35, 36, 37, 38, 39, 40, 41, 42, 43, 44, 45, 46, 47, 48, 49, 50, 51, 52, 53]) | _ => ([], []), cuts := fun i => match i with | _ => none, head := fun i => match i with | 6 => some ([], [0, 1, 2, 3, 4, 5, 6, 7, 8, 9], []) | 11 => some ([], [0, 1, 2, 3, 4, 5, 6, 7, 8, 9], []) | _ => none, rng := fun i => match i with | _ => [] }
theorem ok_slices_Compact_sl_uint32_uint32 {s0 : Option Addr} {s0l s0c : Nat} {R : Ending → World → Prop} {w : World} (h : V_slices_Compact_sl_uint32_uint32 s0 s0l s0c R w) : Calls P F.«slices_Compact_sl_uint32_uint32» ⟨[.slice s0 s0l s0c]⟩ w R :=
  calls_of_vc tabOk bdOk mixed (fn := Tryz.f92) (c := bodyOf Tryz.f92) (pl := plan_slices_Compact_sl_uint32_uint32) Tryz.func92 (by kernel_rfl) (Nat.le_of_ble_eq_true (by kernel_rfl)) (by kernel_rfl)
    (Eq.mp (show V_slices_Compact_sl_uint32_uint32 s0 s0l s0c R w = vcFun P Tb Bd plan_slices_Compact_sl_uint32_uint32 (raw Tryz.f92.ntmps) Tryz.f92.results.toList (bodyOf Tryz.f92) [.slice s0 s0l s0c] R w by kernel_rfl) h)

def V_line_Line_is (l0 : Option Addr) (R : Ending → World → Prop) (w : World) : Prop :=
 bcase (!(l0).isNone) (
  ptrW l0 fun a7 =>
  ∃ p9 : Option Addr, w.cell? (a7.add 0) = some (.pointer p9) ∧
  R (.returned (.bool (!(p9).isNone))) w)
 (R (.returned (.bool false)) w)
def plan_line_Line_is : Plan := { loops := fun i => match i with | _ => ([], []), cuts := fun i => match i with | _ => none, head := fun i => match i with | _ => none, rng := fun i => match i with | _ => [] }
theorem ok_line_Line_is {l0 : Option Addr} {R : Ending → World → Prop} {w : World} (h : V_line_Line_is l0 R w) : Calls P F.«line_Line_is» ⟨[.pointer l0]⟩ w R :=
  calls_of_vc tabOk bdOk mixed (fn := Tryz.f93) (c := bodyOf Tryz.f93) (pl := plan_line_Line_is) Tryz.func93 (by kernel_rfl) (Nat.le_of_ble_eq_true (by kernel_rfl)) (by kernel_rfl)
    (Eq.mp (show V_line_Line_is l0 R w = vcFun P Tb Bd plan_line_Line_is (raw Tryz.f93.ntmps) Tryz.f93.results.toList (bodyOf Tryz.f93) [.pointer l0] R w by kernel_rfl) h)

end Go.Proofs.YtgepmlgkeljelaaGreat.Vc
