/- Conditions of functions, and that they are enough. Written by vcgen.py. -/
import Derived.Test.YtgepmlgkeljelaaGreatTab
set_option maxRecDepth 100000
namespace Go.Proofs.YtgepmlgkeljelaaGreat.Vc
open Go
def V_revertlaw17_PoolLoads (l0 : Option Addr) (l0l l0c : Nat) (next1 : Int) (blocks2 : Option Addr) (blocks2l blocks2c : Nat) (R : Ending → World → Prop) (w : World) : Prop :=
 bcase (decide ((l0l : Int) > 20)) (
  Calls P F.«revertlaw17_awake» ⟨[]⟩ w fun e28 w28 => ∃ b28 : Bool, e28 = .returned (.bool b28) ∧
  R (.returned (.bool b28)) w28)
 (bcase (decide ((blocks2l : Int) > 20)) (
   Calls P F.«revertlaw17_awake» ⟨[]⟩ w fun e28_1 w28_1 => ∃ b28_1 : Bool, e28_1 = .returned (.bool b28_1) ∧
   R (.returned (.bool b28_1)) w28_1)
  (Calls P F.«device_New» ⟨[.int .i64 256]⟩ w fun e29 w29 => ∃ p29 : Option Addr, e29 = .returned (.pointer p29) ∧
   Calls P F.«line_New» ⟨[.pointer p29, .int .i64 (-1), .slice none 0 0]⟩ w29 fun e30 w30 => ∃ p30 : Option Addr, e30 = .returned (.pointer p30) ∧
   Calls P F.«revertref11_New» ⟨[.int .i64 256]⟩ w30 fun e31 w31 => ∃ p31 : Option Addr, e31 = .returned (.pointer p31) ∧
   letW (w31.alloc (.cells ⟨[.pointer p31, .int .i64 (-1), .slice none 0 0, .int .i64 0, .bool false]⟩ T.«revertref12_Line»)) fun u0 =>
   bcase ((p30).isNone) (
    R (.returned (.bool false)) u0)
   (∃ (I7 : Tup [(9, (.int .i64))] → World → Prop) (μ7 : Tup [(9, (.int .i64))] → World → Nat), I7 (0, ()) u0 ∧
    ∀ (junk7 : St) (n9 : Int) (wL7 : World), I7 (n9, ()) wL7 →
    bcase (decide (n9 < (blocks2l : Int))) (
     (0 ≤ n9 ∧ n9 < (blocks2l : Int)) ∧
     ptrW blocks2 fun a44 =>
     ∃ s45 : ByteArray, wL7.cell? (a44.add (n9.toNat * 1)) = some (.string s45) ∧
     bcase (decide ((s45.size : Int) > 64)) (
      Calls P F.«revertlaw17_awake» ⟨[]⟩ wL7 fun e48 w48 => ∃ b48 : Bool, e48 = .returned (.bool b48) ∧
      R (.returned (.bool b48)) w48)
     ((0 ≤ n9 ∧ n9 < (blocks2l : Int)) ∧
      ptrW blocks2 fun a54 =>
      ∃ s55 : ByteArray, wL7.cell? (a54.add (n9.toNat * 1)) = some (.string s55) ∧
      Calls P F.«line_Line_Write» ⟨[.pointer p30, .int .i64 (IntKind.wrap .i64 (128 + n9)), .string s55]⟩ wL7 fun e56 w56 => ∃ n56 : Int, e56 = .returned (.int .i64 n56) ∧
      (0 ≤ n9 ∧ n9 < (blocks2l : Int)) ∧
      ptrW blocks2 fun a62 =>
      ∃ s63 : ByteArray, w56.cell? (a62.add (n9.toNat * 1)) = some (.string s63) ∧
      Calls P F.«revertref12_Line_Write» ⟨[.pointer (some ⟨w31.heap.size, 0, none⟩), .int .i64 (IntKind.wrap .i64 (128 + n9)), .string s63]⟩ w56 fun e64 w64 => ∃ n64 : Int, e64 = .returned (.int .i64 n64) ∧
      I7 ((IntKind.wrap .i64 (n9 + 1)), ()) w64 ∧ μ7 ((IntKind.wrap .i64 (n9 + 1)), ()) w64 < μ7 (n9, ()) wL7))
    (Calls P F.«pool_Load» ⟨[.pointer p30, .int .u32 next1, .slice l0 l0l l0c]⟩ wL7 fun e69 w69 => ∃ p69_a : Option Addr, ∃ n69_b : Int, e69 = .returned (.tuple ⟨[.pointer p69_a, .int .i64 n69_b]⟩) ∧
     Calls P F.«revertlaw17_theirs» ⟨[.slice l0 l0l l0c]⟩ w69 fun e76 w76 => ∃ (a76 : Option Addr) (l76 c76 : Nat), e76 = .returned (.slice a76 l76 c76) ∧
     Calls P F.«revertref17_Load» ⟨[.pointer (some ⟨w31.heap.size, 0, none⟩), .int .u32 next1, .slice a76 l76 c76]⟩ w76 fun e77 w77 => ∃ p77_a : Option Addr, ∃ n77_b : Int, e77 = .returned (.tuple ⟨[.pointer p77_a, .int .i64 n77_b]⟩) ∧
     bcase (n69_b != n77_b) (
      R (.returned (.bool false)) w77)
     (bcase (!(((p69_a).isNone) == ((p77_a).isNone))) (
       R (.returned (.bool false)) w77)
      (bcase ((p77_a).isNone) (
        Calls P F.«revertlaw17_awake» ⟨[]⟩ w77 fun e92 w92 => ∃ b92 : Bool, e92 = .returned (.bool b92) ∧
        R (.returned (.bool b92)) w92)
       (∃ (I20 : Tup [(14, (.int .i64))] → World → Prop) (μ20 : Tup [(14, (.int .i64))] → World → Nat), I20 (0, ()) w77 ∧
        ∀ (junk20 : St) (n14 : Int) (wL20 : World), I20 (n14, ()) wL20 →
        bcase (decide (n14 < (l0l : Int))) (
         (0 ≤ n14 ∧ n14 < (l0l : Int)) ∧
         ptrW l0 fun a101 =>
         ∃ n103 : Int, wL20.cell? ((a101.add (n14.toNat * 4)).add 0) = some (.int .u32 n103) ∧
         ∃ (a104 : Option Addr) (l104 c104 : Nat), ∃ w104, (Instr.buildSlice T.«l_u32» 1 ⟨[(0, .int .u32 n103)]⟩).run P wL20 = .ok (.slice a104 l104 c104) w104 ∧
         (0 ≤ n14 ∧ n14 < (l0l : Int)) ∧
         ptrW l0 fun a110 =>
         ∃ n112 : Int, w104.cell? ((a110.add (n14.toNat * 4)).add 3) = some (.int .i64 n112) ∧
         Calls P F.«pool_Pool_Get» ⟨[.pointer p69_a, .slice a104 l104 c104, .int .i64 n112]⟩ w104 fun e113 w113 => ∃ s113_a : ByteArray, ∃ n113_b : Int, e113 = .returned (.tuple ⟨[.string s113_a, .int .i64 n113_b]⟩) ∧
         (0 ≤ n14 ∧ n14 < (l0l : Int)) ∧
         ptrW l0 fun a121 =>
         ∃ n123 : Int, w113.cell? ((a121.add (n14.toNat * 4)).add 3) = some (.int .i64 n123) ∧
         Calls P F.«revertref17_Pool_Get» ⟨[.pointer p77_a, .slice a104 l104 c104, .int .i64 n123]⟩ w113 fun e124 w124 => ∃ s124_a : ByteArray, ∃ n124_b : Int, e124 = .returned (.tuple ⟨[.string s124_a, .int .i64 n124_b]⟩) ∧
         bcase (!(s113_a.toList == s124_a.toList)) (
          R (.returned (.bool false)) w124)
         (bcase (n113_b != n124_b) (
           R (.returned (.bool false)) w124)
          (I20 ((IntKind.wrap .i64 (n14 + 1)), ()) w124 ∧ μ20 ((IntKind.wrap .i64 (n14 + 1)), ()) w124 < μ20 (n14, ()) wL20)))
        (∀ wd27, Drew wL20 wd27 →
         Calls P F.«pool_Pool_Chunks» ⟨[.pointer p69_a]⟩ wd27 fun e136 w136 => ∃ (a136 : Option Addr) (l136 c136 : Nat), e136 = .returned (.slice a136 l136 c136) ∧
         Calls P F.«revertlaw17_theirs» ⟨[.slice a136 l136 c136]⟩ w136 fun e137 w137 => ∃ (a137 : Option Addr) (l137 c137 : Nat), e137 = .returned (.slice a137 l137 c137) ∧
         Calls P F.«revertref17_Pool_Chunks» ⟨[.pointer p77_a]⟩ w137 fun e139 w139 => ∃ (a139 : Option Addr) (l139 c139 : Nat), e139 = .returned (.slice a139 l139 c139) ∧
         Calls P F.«revertref17_Same» ⟨[.slice a137 l137 c137, .slice a139 l139 c139]⟩ w139 fun e140 w140 => ∃ b140 : Bool, e140 = .returned (.bool b140) ∧
         bcase b140 (
          Calls P F.«pool_Pool_Free» ⟨[.pointer p69_a]⟩ w140 fun e143 w143 => ∃ n143 : Int, e143 = .returned (.int .i64 n143) ∧
          Calls P F.«revertref17_Pool_Free» ⟨[.pointer p77_a]⟩ w143 fun e145 w145 => ∃ n145 : Int, e145 = .returned (.int .i64 n145) ∧
          bcase (n143 == n145) (
           ptrW p77_a fun a152 =>
           ∃ p154 : Option Addr, w145.cell? (a152.add 1) = some (.pointer p154) ∧
           ptrW p154 fun a155 =>
           ∃ n157 : Int, w145.cell? (a155.add 1) = some (.int .u32 n157) ∧
           Calls P F.«pool_Pool_Next» ⟨[.pointer p69_a]⟩ w145 fun e150 w150 => ∃ n150 : Int, e150 = .returned (.int .u32 n150) ∧
           (∃ n157_1 : Int, w150.cell? (a155.add 1) = some (.int .u32 n157_1) ∧
            (.int .u32 n157_1 : Value) = (.int .u32 n157)) ∧
           (∃ p154_1 : Option Addr, w150.cell? (a152.add 1) = some (.pointer p154_1) ∧
            (.pointer p154_1 : Value) = (.pointer p154)) ∧
           bcase (n150 == n157) (
            Calls P F.«revertlaw17_awake» ⟨[]⟩ w150 fun e161 w161 => ∃ b161 : Bool, e161 = .returned (.bool b161) ∧
            R (.returned (.bool b161)) w161)
           (R (.returned (.bool false)) w150))
          (R (.returned (.bool false)) w145))
         (R (.returned (.bool false)) w140)))))))))
def plan_revertlaw17_PoolLoads : Plan := { loops := fun i => match i with | 112 => ([(9, (.int .i64))], [6, 9, 36, 37, 38, 39, 40, 41, 42, 43, 44, 45, 46, 47, 48, 49, 50, 51, 52, 53, 54, 55, 56, 57, 58, 59, 60, 61, 62, 63, 64]) | 320 => ([(14, (.int .i64))], [6, 14, 15, 16, 17, 18, 19, 93, 94, 95, 96, 97, 98, 99, 100, 101, 102, 103, 104, 105, 106, 107, 108, 109, 110, 111, 112, 113, 114, 115, 116, 117, 118, 119, 120, 121, 122, 123, 124, 125, 126, 127, 128, 129, 130, 131, 132, 133, 134]) | _ => ([], []), cuts := fun i => match i with | _ => none, head := fun i => match i with | _ => none, rng := fun i => match i with | _ => [], stg := fun i => match i with | 27 => some ((.q 0 (.q 3 (.w 1 [] (.w 2 [] (.w 4 [] (.w 5 [] (.q 6 (.q 7 (.q 9 (.w 8 [] (.w 10 [] (.q 11 (.q 12 (.q 13 (.q 14 (.q 16 (.q 17 (.q 18 (.q 19 (.q 20 (.q 21 (.q 22 (.w 15 [22, 19] (.q 23 (.q 24 (.q 25 (.w 26 [] (.q 27 (.q 28 .done))))))))))))))))))))))))))))), [0, 1, 3, 0, 15, 31, 63, 127, 255, 127, 1023, 2047, 4095, 8191, 16383, 32767, 16383, 81919, 212991, 475135, 999423, 2047999, 4145151, 8388607, 16777215, 33554431, 67108863, 134217727, 268435455]) | _ => none }
theorem ok_revertlaw17_PoolLoads {l0 : Option Addr} {l0l l0c : Nat} {next1 : Int} {blocks2 : Option Addr} {blocks2l blocks2c : Nat} {R : Ending → World → Prop} {w : World} (h : V_revertlaw17_PoolLoads l0 l0l l0c next1 blocks2 blocks2l blocks2c R w) : Calls P F.«revertlaw17_PoolLoads» ⟨[.slice l0 l0l l0c, .int .u32 next1, .slice blocks2 blocks2l blocks2c]⟩ w R :=
  calls_of_vc tabOk bdOk mixed (fn := Tryz.f4) (c := bodyOf Tryz.f4) (pl := plan_revertlaw17_PoolLoads) Tryz.func4 (by kernel_rfl) (Nat.le_of_ble_eq_true (by kernel_rfl)) (by kernel_rfl)
    (Eq.mp (show V_revertlaw17_PoolLoads l0 l0l l0c next1 blocks2 blocks2l blocks2c R w = vcFun P Tb Bd plan_revertlaw17_PoolLoads (raw Tryz.f4.ntmps) Tryz.f4.results.toList (bodyOf Tryz.f4) [.slice l0 l0l l0c, .int .u32 next1, .slice blocks2 blocks2l blocks2c] R w by kernel_rfl) h)

def V_revertlaw17_awake  (R : Ending → World → Prop) (w : World) : Prop :=
 Calls P F.«revertlaw17_given» ⟨[]⟩ w fun e4 w4 => ∃ p4_a : Option Addr, ∃ p4_b : Option Addr, e4 = .returned (.tuple ⟨[.pointer p4_a, .pointer p4_b]⟩) ∧
 bcase (!(p4_a).isNone) (
  Calls P F.«pool_Pool_Free» ⟨[.pointer p4_a]⟩ w4 fun e11 w11 => ∃ n11 : Int, e11 = .returned (.int .i64 n11) ∧
  bcase (n11 == 128) (
   Calls P F.«pool_Plan_Chunks» ⟨[.pointer p4_b]⟩ w11 fun e16 w16 => ∃ (a16 : Option Addr) (l16 c16 : Nat), e16 = .returned (.slice a16 l16 c16) ∧
   ∃ (a19 : Option Addr) (l19 c19 : Nat), ∃ w19, (Instr.buildSlice T.«l_revertref17_Chunk» 2 ⟨[(0, .agg ⟨[.int .u32 1, .int .i64 128, .int .i64 3, .int .i64 64]⟩), (1, .agg ⟨[.int .u32 2, .int .i64 129, .int .i64 1, .int .i64 1]⟩)]⟩).run P w16 = .ok (.slice a19 l19 c19) w19 ∧
   Calls P F.«revertlaw17_is» ⟨[.slice a16 l16 c16, .slice a19 l19 c19]⟩ w19 fun e20 w20 => ∃ b20 : Bool, e20 = .returned (.bool b20) ∧
   bcase b20 (
    Calls P F.«pool_Pool_Chunks» ⟨[.pointer p4_a]⟩ w20 fun e24 w24 => ∃ (a24 : Option Addr) (l24 c24 : Nat), e24 = .returned (.slice a24 l24 c24) ∧
    R (.returned (.bool ((l24 : Int) == 0))) w24)
   (R (.returned (.bool false)) w20))
  (R (.returned (.bool false)) w11))
 (R (.returned (.bool false)) w4)
def plan_revertlaw17_awake : Plan := { loops := fun i => match i with | _ => ([], []), cuts := fun i => match i with | _ => none, head := fun i => match i with | _ => none, rng := fun i => match i with | _ => [] }
theorem ok_revertlaw17_awake  {R : Ending → World → Prop} {w : World} (h : V_revertlaw17_awake  R w) : Calls P F.«revertlaw17_awake» ⟨[]⟩ w R :=
  calls_of_vc tabOk bdOk mixed (fn := Tryz.f7) (c := bodyOf Tryz.f7) (pl := plan_revertlaw17_awake) Tryz.func7 (by kernel_rfl) (Nat.le_of_ble_eq_true (by kernel_rfl)) (by kernel_rfl)
    (Eq.mp (show V_revertlaw17_awake  R w = vcFun P Tb Bd plan_revertlaw17_awake (raw Tryz.f7.ntmps) Tryz.f7.results.toList (bodyOf Tryz.f7) [] R w by kernel_rfl) h)

def V_pool_Make (l0 : Option Addr) (R : Ending → World → Prop) (w : World) : Prop :=
 bcase ((l0).isNone) (
  R (.returned (.pointer none)) w)
 (Calls P F.«line_Line_Device» ⟨[.pointer l0]⟩ w fun e8 w8 => ∃ p8 : Option Addr, e8 = .returned (.pointer p8) ∧
  bcase ((p8).isNone) (
   R (.returned (.pointer none)) w8)
  (Calls P F.«line_Line_Device» ⟨[.pointer l0]⟩ w8 fun e12 w12 => ∃ p12 : Option Addr, e12 = .returned (.pointer p12) ∧
   Calls P F.«device_Device_Blocks» ⟨[.pointer p12]⟩ w12 fun e13 w13 => ∃ n13 : Int, e13 = .returned (.int .i64 n13) ∧
   Calls P F.«dedup_New» ⟨[]⟩ w13 fun e15 w15 => ∃ p15 : Option Addr, e15 = .returned (.pointer p15) ∧
   (2 : Int) ≠ 0 ∧ Calls P F.«space_New» ⟨[.int .i64 (IntKind.wrap .i64 (Int.tdiv n13 2)), .int .i64 n13]⟩ w15 fun e19 w19 => ∃ p19 : Option Addr, e19 = .returned (.pointer p19) ∧
   letW (w19.alloc (.cells ⟨[.pointer l0, .pointer p15, .pointer p19]⟩ T.«pool_Pool»)) fun u0 =>
   R (.returned (.pointer (some ⟨w19.heap.size, 0, none⟩))) u0))
def plan_pool_Make : Plan := { loops := fun i => match i with | _ => ([], []), cuts := fun i => match i with | _ => none, head := fun i => match i with | _ => none, rng := fun i => match i with | _ => [] }
theorem ok_pool_Make {l0 : Option Addr} {R : Ending → World → Prop} {w : World} (h : V_pool_Make l0 R w) : Calls P F.«pool_Make» ⟨[.pointer l0]⟩ w R :=
  calls_of_vc tabOk bdOk mixed (fn := Tryz.f8) (c := bodyOf Tryz.f8) (pl := plan_pool_Make) Tryz.func8 (by kernel_rfl) (Nat.le_of_ble_eq_true (by kernel_rfl)) (by kernel_rfl)
    (Eq.mp (show V_pool_Make l0 R w = vcFun P Tb Bd plan_pool_Make (raw Tryz.f8.ntmps) Tryz.f8.results.toList (bodyOf Tryz.f8) [.pointer l0] R w by kernel_rfl) h)

def V_line_New (d0 : Option Addr) (cut1 : Int) (choices2 : Option Addr) (choices2l choices2c : Nat) (R : Ending → World → Prop) (w : World) : Prop :=
 Calls P F.«device_Device_Blocks» ⟨[.pointer d0]⟩ w fun e8 w8 => ∃ n8 : Int, e8 = .returned (.int .i64 n8) ∧
 bcase (n8 == 0) (
  R (.returned (.pointer none)) w8)
 (Calls P F.«slices_Clone_sl_int_int» ⟨[.slice choices2 choices2l choices2c]⟩ w8 fun e13 w13 => ∃ (a13 : Option Addr) (l13 c13 : Nat), e13 = .returned (.slice a13 l13 c13) ∧
  letW (w13.alloc (.cells ⟨[.pointer d0, .int .i64 cut1, .slice a13 l13 c13, .int .i64 0, .bool false]⟩ T.«line_Line»)) fun u0 =>
  R (.returned (.pointer (some ⟨w13.heap.size, 0, none⟩))) u0)
def plan_line_New : Plan := { loops := fun i => match i with | _ => ([], []), cuts := fun i => match i with | _ => none, head := fun i => match i with | _ => none, rng := fun i => match i with | _ => [] }
theorem ok_line_New {d0 : Option Addr} {cut1 : Int} {choices2 : Option Addr} {choices2l choices2c : Nat} {R : Ending → World → Prop} {w : World} (h : V_line_New d0 cut1 choices2 choices2l choices2c R w) : Calls P F.«line_New» ⟨[.pointer d0, .int .i64 cut1, .slice choices2 choices2l choices2c]⟩ w R :=
  calls_of_vc tabOk bdOk mixed (fn := Tryz.f9) (c := bodyOf Tryz.f9) (pl := plan_line_New) Tryz.func9 (by kernel_rfl) (Nat.le_of_ble_eq_true (by kernel_rfl)) (by kernel_rfl)
    (Eq.mp (show V_line_New d0 cut1 choices2 choices2l choices2c R w = vcFun P Tb Bd plan_line_New (raw Tryz.f9.ntmps) Tryz.f9.results.toList (bodyOf Tryz.f9) [.pointer d0, .int .i64 cut1, .slice choices2 choices2l choices2c] R w by kernel_rfl) h)

def V_device_New (n0 : Int) (R : Ending → World → Prop) (w : World) : Prop :=
 bcase (decide (n0 < 256)) (
  R (.returned (.pointer none)) w)
 (bcase (decide (n0 > 2048)) (
   R (.returned (.pointer none)) w)
  (∃ (a10 : Option Addr) (l10 c10 : Nat), ∃ w10, (Instr.makeSlice T.«l_device_slot» (.int .i64 n0) (.int .i64 n0)).run P w = .ok (.slice a10 l10 c10) w10 ∧
   letW (w10.alloc (.cells ⟨[.slice a10 l10 c10]⟩ T.«device_Device»)) fun u0 =>
   R (.returned (.pointer (some ⟨w10.heap.size, 0, none⟩))) u0))
def plan_device_New : Plan := { loops := fun i => match i with | _ => ([], []), cuts := fun i => match i with | _ => none, head := fun i => match i with | _ => none, rng := fun i => match i with | _ => [] }
theorem ok_device_New {n0 : Int} {R : Ending → World → Prop} {w : World} (h : V_device_New n0 R w) : Calls P F.«device_New» ⟨[.int .i64 n0]⟩ w R :=
  calls_of_vc tabOk bdOk mixed (fn := Tryz.f10) (c := bodyOf Tryz.f10) (pl := plan_device_New) Tryz.func10 (by kernel_rfl) (Nat.le_of_ble_eq_true (by kernel_rfl)) (by kernel_rfl)
    (Eq.mp (show V_device_New n0 R w = vcFun P Tb Bd plan_device_New (raw Tryz.f10.ntmps) Tryz.f10.results.toList (bodyOf Tryz.f10) [.int .i64 n0] R w by kernel_rfl) h)

def V_pool_Pool_Begin (p0 : Option Addr) (R : Ending → World → Prop) (w : World) : Prop :=
 Calls P F.«pool_Pool_is» ⟨[.pointer p0]⟩ w fun e4 w4 => ∃ b4 : Bool, e4 = .returned (.bool b4) ∧
 bcase (!b4) (
  R (.returned (.pointer none)) w4)
 (∀ wd3, Drew w4 wd3 →
  ptrW p0 fun a8 =>
  ∃ p10 : Option Addr, wd3.cell? (a8.add 1) = some (.pointer p10) ∧
  ptrW p0 fun a13 =>
  ∃ p15 : Option Addr, wd3.cell? (a13.add 2) = some (.pointer p15) ∧
  Calls P F.«dedup_Table_Copy» ⟨[.pointer p10]⟩ wd3 fun e11 w11 => ∃ p11 : Option Addr, e11 = .returned (.pointer p11) ∧
  (∃ p15_1 : Option Addr, w11.cell? (a13.add 2) = some (.pointer p15_1) ∧
   (.pointer p15_1 : Value) = (.pointer p15)) ∧
  Calls P F.«space_Space_Copy» ⟨[.pointer p15]⟩ w11 fun e16 w16 => ∃ p16 : Option Addr, e16 = .returned (.pointer p16) ∧
  letW (w16.alloc (.cells ⟨[.pointer p0, .pointer p11, .pointer p16, .bool false]⟩ T.«pool_Plan»)) fun u0 =>
  R (.returned (.pointer (some ⟨w16.heap.size, 0, none⟩))) u0)
def plan_pool_Pool_Begin : Plan := { loops := fun i => match i with | _ => ([], []), cuts := fun i => match i with | _ => none, head := fun i => match i with | _ => none, rng := fun i => match i with | _ => [], stg := fun i => match i with | 3 => some ((.q 0 (.q 1 (.q 2 (.q 3 (.q 4 (.q 6 (.q 7 (.q 8 (.q 9 (.w 5 [9] (.w 10 [] (.q 11 (.w 12 [] (.q 13 .done)))))))))))))), [0, 0, 2, 6, 14, 30, 0, 64, 192, 448, 1022, 2047, 4095, 8191]) | _ => none }
theorem ok_pool_Pool_Begin {p0 : Option Addr} {R : Ending → World → Prop} {w : World} (h : V_pool_Pool_Begin p0 R w) : Calls P F.«pool_Pool_Begin» ⟨[.pointer p0]⟩ w R :=
  calls_of_vc tabOk bdOk mixed (fn := Tryz.f11) (c := bodyOf Tryz.f11) (pl := plan_pool_Pool_Begin) Tryz.func11 (by kernel_rfl) (Nat.le_of_ble_eq_true (by kernel_rfl)) (by kernel_rfl)
    (Eq.mp (show V_pool_Pool_Begin p0 R w = vcFun P Tb Bd plan_pool_Pool_Begin (raw Tryz.f11.ntmps) Tryz.f11.results.toList (bodyOf Tryz.f11) [.pointer p0] R w by kernel_rfl) h)

def V_pool_Plan_Done (q0 : Option Addr) (R : Ending → World → Prop) (w : World) : Prop :=
 letW (w.alloc (.cells ⟨[.pointer q0]⟩ T.«p_pool_Plan»)) fun u0 =>
 ∃ p11 : Option Addr, u0.cell? ⟨w.heap.size, 0, none⟩ = some (.pointer p11) ∧
 Calls P F.«pool_Plan_may» ⟨[.pointer p11]⟩ u0 fun e12 w12 => ∃ n12 : Int, e12 = .returned (.int .i64 n12) ∧
 bcase (n12 != 0) (
  R (.returned (.int .i64 n12)) w12)
 (∃ p16 : Option Addr, w12.cell? ⟨w.heap.size, 0, none⟩ = some (.pointer p16) ∧
  ptrW p16 fun a17 =>
  (∃ old, w12.cell? ((a17.add 3).add 0) = some old) ∧ w12.frozen? ((a17.add 3).add 0) = false ∧
  letW (w12.setCell ((a17.add 3).add 0) (.bool true)) fun u0_1 =>
  ∃ p19 : Option Addr, u0_1.cell? ⟨w.heap.size, 0, none⟩ = some (.pointer p19) ∧
  ptrW p19 fun a20 =>
  ∃ p22 : Option Addr, u0_1.cell? (a20.add 0) = some (.pointer p22) ∧
  ptrW p22 fun a23 =>
  ∃ p25 : Option Addr, u0_1.cell? (a23.add 0) = some (.pointer p25) ∧
  Calls P F.«line_Line_Device» ⟨[.pointer p25]⟩ u0_1 fun e26 w26 => ∃ p26 : Option Addr, e26 = .returned (.pointer p26) ∧
  Calls P F.«device_Device_Blocks» ⟨[.pointer p26]⟩ w26 fun e27 w27 => ∃ n27 : Int, e27 = .returned (.int .i64 n27) ∧
  (2 : Int) ≠ 0 ∧ Calls P F.«space_New» ⟨[.int .i64 (IntKind.wrap .i64 (Int.tdiv n27 2)), .int .i64 n27]⟩ w27 fun e31 w31 => ∃ p31 : Option Addr, e31 = .returned (.pointer p31) ∧
  letW (w31.alloc (.cells ⟨[(.pointer none)]⟩ T.«p_space_Space»)) fun u0_2 =>
  (∃ old, u0_2.cell? ((⟨w31.heap.size, 0, none⟩ : Addr).add 0) = some old) ∧ u0_2.frozen? ((⟨w31.heap.size, 0, none⟩ : Addr).add 0) = false ∧
  letW (u0_2.setCell ((⟨w31.heap.size, 0, none⟩ : Addr).add 0) (.pointer p31)) fun u0_3 =>
  ∃ p32 : Option Addr, u0_3.cell? ⟨w.heap.size, 0, none⟩ = some (.pointer p32) ∧
  ptrW p32 fun a33 =>
  ∃ p35 : Option Addr, u0_3.cell? (a33.add 1) = some (.pointer p35) ∧
  Calls P F.«dedup_Table_All» ⟨[.pointer p35]⟩ u0_3 fun e36 w36 => ∃ v36 : Value, e36 = .returned (v36) ∧
  onFunc v36 fun gf first caps => bW (Bd gf) (∀ (y : Value) (rec : LoopState → Option Code → Obj),
   (∀ R' : Ending → World → Prop, ∀ (n37 : Int), ∀ (wr : World), wr.heap[(w36.heap.size + 1)]? = some (rec .ready none) →
    (wr.heap[(w36.heap.size + 1)]? = some (rec .ready none) ∧
     letW (wr.putObj (w36.heap.size + 1) (rec .busy none)) fun u0_4 =>
     ∃ p39 : Option Addr, u0_4.cell? ⟨w.heap.size, 0, none⟩ = some (.pointer p39) ∧
     ptrW p39 fun a40 =>
     ∃ p42 : Option Addr, u0_4.cell? (a40.add 1) = some (.pointer p42) ∧
     Calls P F.«dedup_Table_Get» ⟨[.pointer p42, .int .u32 n37]⟩ u0_4 fun e44 w44 => ∃ s44_a : ByteArray, ∃ n44_b : Int, ∃ n44_c : Int, ∃ b44_d : Bool, e44 = .returned (.tuple ⟨[.string s44_a, .int .i64 n44_b, .int .i64 n44_c, .bool b44_d]⟩) ∧
     ∃ p49 : Option Addr, w44.cell? ⟨w31.heap.size, 0, none⟩ = some (.pointer p49) ∧
     Calls P F.«space_Space_Use» ⟨[.pointer p49, .int .i64 n44_b]⟩ w44 fun e51 w51 => ∃ n51 : Int, e51 = .returned (.int .i64 n51) ∧
     w51.heap[(w36.heap.size + 1)]? = some (rec .busy none) ∧ R' (.returned (.bool true)) (w51.putObj (w36.heap.size + 1) (rec .ready none))) → callV P Bd y [.int .u32 n37] wr R') →
   Calls P gf ⟨first ++ [y] ++ caps⟩ ((w36.alloc (.deferred (some []))).alloc (rec .ready none)) fun ef wf => (∃ v, ef = .returned v) ∧
   (((∃ stj, stj ≠ .busy ∧ wf.heap[(w36.heap.size + 1)]? = some (rec stj none) ∧
      letW (wf.putObj (w36.heap.size + 1) (rec .exhausted none)) fun u0_5 =>
      ∀ wd11, Drew u0_5 wd11 →
      ∃ p52 : Option Addr, wd11.cell? ⟨w.heap.size, 0, none⟩ = some (.pointer p52) ∧
      ptrW p52 fun a53 =>
      ∃ p55 : Option Addr, wd11.cell? (a53.add 0) = some (.pointer p55) ∧
      ∃ p56 : Option Addr, wd11.cell? ⟨w.heap.size, 0, none⟩ = some (.pointer p56) ∧
      ptrW p56 fun a57 =>
      ∃ p59 : Option Addr, wd11.cell? (a57.add 0) = some (.pointer p59) ∧
      ∃ p60 : Option Addr, wd11.cell? ⟨w.heap.size, 0, none⟩ = some (.pointer p60) ∧
      ptrW p60 fun a61 =>
      ∃ p63 : Option Addr, wd11.cell? (a61.add 1) = some (.pointer p63) ∧
      ∃ p64 : Option Addr, wd11.cell? ⟨w31.heap.size, 0, none⟩ = some (.pointer p64) ∧
      ptrW p55 fun a65 =>
      (∃ old, wd11.cell? ((a65.add 1).add 0) = some old) ∧ wd11.frozen? ((a65.add 1).add 0) = false ∧
      letW (wd11.setCell ((a65.add 1).add 0) (.pointer p63)) fun u0_6 =>
      (∃ p64_1 : Option Addr, u0_6.cell? ⟨w31.heap.size, 0, none⟩ = some (.pointer p64_1) ∧
       (.pointer p64_1 : Value) = (.pointer p64)) ∧
      ptrW p59 fun a67 =>
      (∃ old, u0_6.cell? ((a67.add 2).add 0) = some old) ∧ u0_6.frozen? ((a67.add 2).add 0) = false ∧
      letW (u0_6.setCell ((a67.add 2).add 0) (.pointer p64)) fun u0_7 =>
      u0_7.heap[w36.heap.size]? = some (.deferred (some [])) ∧
      letW (u0_7.putObj w36.heap.size (.deferred none)) fun u0_8 =>
      R (.returned (.int .i64 0)) u0_8) ∨ (∃ stj, stj ≠ .busy ∧ wf.heap[(w36.heap.size + 1)]? = some (rec stj (some .ret)) ∧
      letW (wf.putObj (w36.heap.size + 1) (rec .exhausted (some .ret))) fun u0_9 =>
      u0_9.heap[w36.heap.size]? = some (.deferred (some [])) ∧
      letW (u0_9.putObj w36.heap.size (.deferred none)) fun u0_10 =>
      R (.returned (.int .i64 0)) u0_10)))))
def plan_pool_Plan_Done : Plan := { loops := fun i => match i with | _ => ([], []), cuts := fun i => match i with | _ => none, head := fun i => match i with | _ => none, rng := fun i => match i with | 9 => [(.int .u32)] | _ => [], stg := fun i => match i with | 11 => some ((.q 0 (.q 1 (.q 2 (.q 3 (.q 4 (.q 5 (.q 6 (.q 7 (.q 8 (.q 9 (.q 10 (.q 11 (.q 12 (.q 13 (.q 14 (.w 15 [12] (.q 16 (.q 17 (.w 18 [] .done))))))))))))))))))), [0, 1, 3, 7, 0, 16, 48, 112, 0, 256, 768, 1792, 0, 4095, 12287, 28671, 65535, 131071, 262143]) | _ => none }
theorem ok_pool_Plan_Done {q0 : Option Addr} {R : Ending → World → Prop} {w : World} (h : V_pool_Plan_Done q0 R w) : Calls P F.«pool_Plan_Done» ⟨[.pointer q0]⟩ w R :=
  calls_of_vc tabOk bdOk mixed (fn := Tryz.f13) (c := bodyOf Tryz.f13) (pl := plan_pool_Plan_Done) Tryz.func13 (by kernel_rfl) (Nat.le_of_ble_eq_true (by kernel_rfl)) (by kernel_rfl)
    (Eq.mp (show V_pool_Plan_Done q0 R w = vcFun P Tb Bd plan_pool_Plan_Done (raw Tryz.f13.ntmps) Tryz.f13.results.toList (bodyOf Tryz.f13) [.pointer q0] R w by kernel_rfl) h)

def V_pool_Pool_Chunks (p0 : Option Addr) (R : Ending → World → Prop) (w : World) : Prop :=
 letW (w.alloc (.cells ⟨[.pointer p0]⟩ T.«p_pool_Pool»)) fun u0 =>
 letW (u0.alloc (.cells ⟨[(.slice none 0 0)]⟩ T.«l_pool_Chunk»)) fun u0_1 =>
 ∃ p6 : Option Addr, u0_1.cell? ⟨w.heap.size, 0, none⟩ = some (.pointer p6) ∧
 Calls P F.«pool_Pool_is» ⟨[.pointer p6]⟩ u0_1 fun e7 w7 => ∃ b7 : Bool, e7 = .returned (.bool b7) ∧
 bcase (!b7) (
  (∃ old, w7.cell? ((⟨u0.heap.size, 0, none⟩ : Addr).add 0) = some old) ∧ w7.frozen? ((⟨u0.heap.size, 0, none⟩ : Addr).add 0) = false ∧
  letW (w7.setCell ((⟨u0.heap.size, 0, none⟩ : Addr).add 0) (.slice none 0 0)) fun u0_2 =>
  ∃ (ar0 : Option Addr) (lr0 cr0 : Nat), u0_2.cell? ⟨u0.heap.size, 0, none⟩ = some (.slice ar0 lr0 cr0) ∧
  R (.returned (.slice ar0 lr0 cr0)) u0_2)
 (∃ p9 : Option Addr, w7.cell? ⟨w.heap.size, 0, none⟩ = some (.pointer p9) ∧
  ptrW p9 fun a10 =>
  ∃ p12 : Option Addr, w7.cell? (a10.add 1) = some (.pointer p12) ∧
  Calls P F.«dedup_Table_All» ⟨[.pointer p12]⟩ w7 fun e13 w13 => ∃ v13 : Value, e13 = .returned (v13) ∧
  onFunc v13 fun gf first caps => bW (Bd gf) (∀ (y : Value) (rec : LoopState → Option Code → Obj),
   (∀ R' : Ending → World → Prop, ∀ (n14 : Int), ∀ (wr : World), wr.heap[(w13.heap.size + 1)]? = some (rec .ready none) →
    (wr.heap[(w13.heap.size + 1)]? = some (rec .ready none) ∧
     letW (wr.putObj (w13.heap.size + 1) (rec .busy none)) fun u0_3 =>
     ∃ p16 : Option Addr, u0_3.cell? ⟨w.heap.size, 0, none⟩ = some (.pointer p16) ∧
     ptrW p16 fun a17 =>
     ∃ p19 : Option Addr, u0_3.cell? (a17.add 1) = some (.pointer p19) ∧
     Calls P F.«pool_chunk» ⟨[.pointer p19, .int .u32 n14]⟩ u0_3 fun e21 w21 => ∃ n21_a_0 : Int, ∃ n21_a_1 : Int, ∃ n21_a_2 : Int, ∃ n21_a_3 : Int, ∃ b21_b : Bool, e21 = .returned (.tuple ⟨[.agg ⟨[.int .u32 n21_a_0, .int .i64 n21_a_1, .int .i64 n21_a_2, .int .i64 n21_a_3]⟩, .bool b21_b]⟩) ∧
     letW (w21.alloc (.cells ⟨[(.int .u32 0), (.int .i64 0), (.int .i64 0), (.int .i64 0)]⟩ T.«pool_Chunk»)) fun u0_4 =>
     (∃ old, u0_4.cell? ((⟨w21.heap.size, 0, none⟩ : Addr).add 0) = some old) ∧ u0_4.frozen? ((⟨w21.heap.size, 0, none⟩ : Addr).add 0) = false ∧
     letW (u0_4.setCell ((⟨w21.heap.size, 0, none⟩ : Addr).add 0) (.int .u32 n21_a_0)) fun u0_5 =>
     (∃ old, u0_5.cell? ((⟨w21.heap.size, 0, none⟩ : Addr).add 1) = some old) ∧ u0_5.frozen? ((⟨w21.heap.size, 0, none⟩ : Addr).add 1) = false ∧
     letW (u0_5.setCell ((⟨w21.heap.size, 0, none⟩ : Addr).add 1) (.int .i64 n21_a_1)) fun u0_6 =>
     (∃ old, u0_6.cell? ((⟨w21.heap.size, 0, none⟩ : Addr).add 2) = some old) ∧ u0_6.frozen? ((⟨w21.heap.size, 0, none⟩ : Addr).add 2) = false ∧
     letW (u0_6.setCell ((⟨w21.heap.size, 0, none⟩ : Addr).add 2) (.int .i64 n21_a_2)) fun u0_7 =>
     (∃ old, u0_7.cell? ((⟨w21.heap.size, 0, none⟩ : Addr).add 3) = some old) ∧ u0_7.frozen? ((⟨w21.heap.size, 0, none⟩ : Addr).add 3) = false ∧
     letW (u0_7.setCell ((⟨w21.heap.size, 0, none⟩ : Addr).add 3) (.int .i64 n21_a_3)) fun u0_8 =>
     ∃ (a24 : Option Addr) (l24 c24 : Nat), u0_8.cell? ⟨u0.heap.size, 0, none⟩ = some (.slice a24 l24 c24) ∧
     ∃ n25_0 : Int, ∃ n25_1 : Int, ∃ n25_2 : Int, ∃ n25_3 : Int, (u0_8.cell? ((⟨w21.heap.size, 0, none⟩ : Addr).add 0) = some (.int .u32 n25_0) ∧ u0_8.cell? ((⟨w21.heap.size, 0, none⟩ : Addr).add 1) = some (.int .i64 n25_1) ∧ u0_8.cell? ((⟨w21.heap.size, 0, none⟩ : Addr).add 2) = some (.int .i64 n25_2) ∧ u0_8.cell? ((⟨w21.heap.size, 0, none⟩ : Addr).add 3) = some (.int .i64 n25_3) ∧ True) ∧
     ∃ (a26 : Option Addr) (l26 c26 : Nat), ∃ w26, (Instr.buildSlice T.«l_pool_Chunk» 1 ⟨[(0, .agg ⟨[.int .u32 n25_0, .int .i64 n25_1, .int .i64 n25_2, .int .i64 n25_3]⟩)]⟩).run P u0_8 = .ok (.slice a26 l26 c26) w26 ∧
     ∃ (a27 : Option Addr) (l27 c27 : Nat), ∃ w27, (Builtin.append_ ⟨[T.«l_pool_Chunk», T.«l_pool_Chunk»]⟩ T.«l_pool_Chunk» ⟨[.slice a24 l24 c24, .slice a26 l26 c26]⟩).run P w26 = .ok (.slice a27 l27 c27) w27 ∧
     (∃ old, w27.cell? ((⟨u0.heap.size, 0, none⟩ : Addr).add 0) = some old) ∧ w27.frozen? ((⟨u0.heap.size, 0, none⟩ : Addr).add 0) = false ∧
     letW (w27.setCell ((⟨u0.heap.size, 0, none⟩ : Addr).add 0) (.slice a27 l27 c27)) fun u0_9 =>
     u0_9.heap[(w13.heap.size + 1)]? = some (rec .busy none) ∧ R' (.returned (.bool true)) (u0_9.putObj (w13.heap.size + 1) (rec .ready none))) → callV P Bd y [.int .u32 n14] wr R') →
   Calls P gf ⟨first ++ [y] ++ caps⟩ ((w13.alloc (.deferred (some []))).alloc (rec .ready none)) fun ef wf => (∃ v, ef = .returned v) ∧
   (((∃ stj, stj ≠ .busy ∧ wf.heap[(w13.heap.size + 1)]? = some (rec stj none) ∧
      letW (wf.putObj (w13.heap.size + 1) (rec .exhausted none)) fun u0_10 =>
      ∃ (a28 : Option Addr) (l28 c28 : Nat), u0_10.cell? ⟨u0.heap.size, 0, none⟩ = some (.slice a28 l28 c28) ∧
      (∃ old, u0_10.cell? ((⟨u0.heap.size, 0, none⟩ : Addr).add 0) = some old) ∧ u0_10.frozen? ((⟨u0.heap.size, 0, none⟩ : Addr).add 0) = false ∧
      letW (u0_10.setCell ((⟨u0.heap.size, 0, none⟩ : Addr).add 0) (.slice a28 l28 c28)) fun u0_11 =>
      u0_11.heap[w13.heap.size]? = some (.deferred (some [])) ∧
      letW (u0_11.putObj w13.heap.size (.deferred none)) fun u0_12 =>
      ∃ (ar0_1 : Option Addr) (lr0_1 cr0_1 : Nat), u0_12.cell? ⟨u0.heap.size, 0, none⟩ = some (.slice ar0_1 lr0_1 cr0_1) ∧
      R (.returned (.slice ar0_1 lr0_1 cr0_1)) u0_12) ∨ (∃ stj, stj ≠ .busy ∧ wf.heap[(w13.heap.size + 1)]? = some (rec stj (some .ret)) ∧
      letW (wf.putObj (w13.heap.size + 1) (rec .exhausted (some .ret))) fun u0_13 =>
      u0_13.heap[w13.heap.size]? = some (.deferred (some [])) ∧
      letW (u0_13.putObj w13.heap.size (.deferred none)) fun u0_14 =>
      ∃ (ar0_2 : Option Addr) (lr0_2 cr0_2 : Nat), u0_14.cell? ⟨u0.heap.size, 0, none⟩ = some (.slice ar0_2 lr0_2 cr0_2) ∧
      R (.returned (.slice ar0_2 lr0_2 cr0_2)) u0_14)))))
def plan_pool_Pool_Chunks : Plan := { loops := fun i => match i with | _ => ([], []), cuts := fun i => match i with | _ => none, head := fun i => match i with | _ => none, rng := fun i => match i with | 5 => [(.int .u32)] | _ => [] }
theorem ok_pool_Pool_Chunks {p0 : Option Addr} {R : Ending → World → Prop} {w : World} (h : V_pool_Pool_Chunks p0 R w) : Calls P F.«pool_Pool_Chunks» ⟨[.pointer p0]⟩ w R :=
  calls_of_vc tabOk bdOk mixed (fn := Tryz.f14) (c := bodyOf Tryz.f14) (pl := plan_pool_Pool_Chunks) Tryz.func14 (by kernel_rfl) (Nat.le_of_ble_eq_true (by kernel_rfl)) (by kernel_rfl)
    (Eq.mp (show V_pool_Pool_Chunks p0 R w = vcFun P Tb Bd plan_pool_Pool_Chunks (raw Tryz.f14.ntmps) Tryz.f14.results.toList (bodyOf Tryz.f14) [.pointer p0] R w by kernel_rfl) h)

def V_pool_Pool_Free (p0 : Option Addr) (R : Ending → World → Prop) (w : World) : Prop :=
 Calls P F.«pool_Pool_is» ⟨[.pointer p0]⟩ w fun e4 w4 => ∃ b4 : Bool, e4 = .returned (.bool b4) ∧
 bcase (!b4) (
  R (.returned (.int .i64 0)) w4)
 (ptrW p0 fun a7 =>
  ∃ p9 : Option Addr, w4.cell? (a7.add 2) = some (.pointer p9) ∧
  Calls P F.«space_Space_Count» ⟨[.pointer p9]⟩ w4 fun e10 w10 => ∃ n10 : Int, e10 = .returned (.int .i64 n10) ∧
  R (.returned (.int .i64 n10)) w10)
def plan_pool_Pool_Free : Plan := { loops := fun i => match i with | _ => ([], []), cuts := fun i => match i with | _ => none, head := fun i => match i with | _ => none, rng := fun i => match i with | _ => [] }
theorem ok_pool_Pool_Free {p0 : Option Addr} {R : Ending → World → Prop} {w : World} (h : V_pool_Pool_Free p0 R w) : Calls P F.«pool_Pool_Free» ⟨[.pointer p0]⟩ w R :=
  calls_of_vc tabOk bdOk mixed (fn := Tryz.f16) (c := bodyOf Tryz.f16) (pl := plan_pool_Pool_Free) Tryz.func16 (by kernel_rfl) (Nat.le_of_ble_eq_true (by kernel_rfl)) (by kernel_rfl)
    (Eq.mp (show V_pool_Pool_Free p0 R w = vcFun P Tb Bd plan_pool_Pool_Free (raw Tryz.f16.ntmps) Tryz.f16.results.toList (bodyOf Tryz.f16) [.pointer p0] R w by kernel_rfl) h)

def V_pool_Plan_Put (q0 : Option Addr) (data1 : ByteArray) (R : Ending → World → Prop) (w : World) : Prop :=
 letW (w.alloc (.cells ⟨[.pointer q0]⟩ T.«p_pool_Plan»)) fun u0 =>
 letW (u0.alloc (.cells ⟨[.string data1]⟩ T.«string»)) fun u0_1 =>
 letW (u0_1.alloc (.cells ⟨[(.slice none 0 0)]⟩ T.«l_u32»)) fun u0_2 =>
 ∃ p6 : Option Addr, u0_2.cell? ⟨w.heap.size, 0, none⟩ = some (.pointer p6) ∧
 Calls P F.«pool_Plan_try» ⟨[.pointer p6, .func (.func F.«pool_Plan_Put_1») ⟨[]⟩ ⟨[.pointer (some ⟨u0.heap.size, 0, none⟩), .pointer (some ⟨w.heap.size, 0, none⟩), .pointer (some ⟨u0_1.heap.size, 0, none⟩)]⟩]⟩ u0_2 fun e8 w8 => ∃ n8 : Int, e8 = .returned (.int .i64 n8) ∧
 bcase (n8 != 0) (
  (∃ old, w8.cell? ((⟨u0_1.heap.size, 0, none⟩ : Addr).add 0) = some old) ∧ w8.frozen? ((⟨u0_1.heap.size, 0, none⟩ : Addr).add 0) = false ∧
  letW (w8.setCell ((⟨u0_1.heap.size, 0, none⟩ : Addr).add 0) (.slice none 0 0)) fun u0_3 =>
  ∃ (ar0 : Option Addr) (lr0 cr0 : Nat), u0_3.cell? ⟨u0_1.heap.size, 0, none⟩ = some (.slice ar0 lr0 cr0) ∧
  R (.returned (.tuple ⟨[.slice ar0 lr0 cr0, .int .i64 n8]⟩)) u0_3)
 (∃ (a12 : Option Addr) (l12 c12 : Nat), w8.cell? ⟨u0_1.heap.size, 0, none⟩ = some (.slice a12 l12 c12) ∧
  (∃ old, w8.cell? ((⟨u0_1.heap.size, 0, none⟩ : Addr).add 0) = some old) ∧ w8.frozen? ((⟨u0_1.heap.size, 0, none⟩ : Addr).add 0) = false ∧
  letW (w8.setCell ((⟨u0_1.heap.size, 0, none⟩ : Addr).add 0) (.slice a12 l12 c12)) fun u0_4 =>
  ∃ (ar0_1 : Option Addr) (lr0_1 cr0_1 : Nat), u0_4.cell? ⟨u0_1.heap.size, 0, none⟩ = some (.slice ar0_1 lr0_1 cr0_1) ∧
  R (.returned (.tuple ⟨[.slice ar0_1 lr0_1 cr0_1, .int .i64 0]⟩)) u0_4)
def plan_pool_Plan_Put : Plan := { loops := fun i => match i with | _ => ([], []), cuts := fun i => match i with | _ => none, head := fun i => match i with | _ => none, rng := fun i => match i with | _ => [] }
theorem ok_pool_Plan_Put {q0 : Option Addr} {data1 : ByteArray} {R : Ending → World → Prop} {w : World} (h : V_pool_Plan_Put q0 data1 R w) : Calls P F.«pool_Plan_Put» ⟨[.pointer q0, .string data1]⟩ w R :=
  calls_of_vc tabOk bdOk mixed (fn := Tryz.f17) (c := bodyOf Tryz.f17) (pl := plan_pool_Plan_Put) Tryz.func17 (by kernel_rfl) (Nat.le_of_ble_eq_true (by kernel_rfl)) (by kernel_rfl)
    (Eq.mp (show V_pool_Plan_Put q0 data1 R w = vcFun P Tb Bd plan_pool_Plan_Put (raw Tryz.f17.ntmps) Tryz.f17.results.toList (bodyOf Tryz.f17) [.pointer q0, .string data1] R w by kernel_rfl) h)

def V_revertref17_Ids (a0 : Option Addr) (a0l a0c : Nat) (b1 : Option Addr) (b1l b1c : Nat) (R : Ending → World → Prop) (w : World) : Prop :=
 bcase ((a0l : Int) != (b1l : Int)) (
  R (.returned (.bool false)) w)
 (∃ (I4 : Tup [(5, (.int .i64))] → World → Prop) (μ4 : Tup [(5, (.int .i64))] → World → Nat), I4 (0, ()) w ∧
  ∀ (junk4 : St) (n5 : Int) (wL4 : World), I4 (n5, ()) wL4 →
  bcase (decide (n5 < (a0l : Int))) (
   (0 ≤ n5 ∧ n5 < (a0l : Int)) ∧
   ptrW a0 fun a19 =>
   ∃ n20 : Int, wL4.cell? (a19.add (n5.toNat * 1)) = some (.int .u32 n20) ∧
   (0 ≤ n5 ∧ n5 < (b1l : Int)) ∧
   ptrW b1 fun a23 =>
   ∃ n24 : Int, wL4.cell? (a23.add (n5.toNat * 1)) = some (.int .u32 n24) ∧
   ∀ wd6, Drew wL4 wd6 →
   bcase (n20 != n24) (
    R (.returned (.bool false)) wd6)
   (I4 ((IntKind.wrap .i64 (n5 + 1)), ()) wd6 ∧ μ4 ((IntKind.wrap .i64 (n5 + 1)), ()) wd6 < μ4 (n5, ()) wL4))
  (R (.returned (.bool true)) wL4))
def plan_revertref17_Ids : Plan := { loops := fun i => match i with | 64 => ([(5, (.int .i64))], [4, 5, 11, 12, 13, 14, 15, 16, 17, 18, 19, 20, 21, 22, 23, 24, 25]) | _ => ([], []), cuts := fun i => match i with | _ => none, head := fun i => match i with | 6 => some ([], [0, 1, 2, 3, 4, 5, 6, 7, 8], []) | _ => none, rng := fun i => match i with | _ => [] }
theorem ok_revertref17_Ids {a0 : Option Addr} {a0l a0c : Nat} {b1 : Option Addr} {b1l b1c : Nat} {R : Ending → World → Prop} {w : World} (h : V_revertref17_Ids a0 a0l a0c b1 b1l b1c R w) : Calls P F.«revertref17_Ids» ⟨[.slice a0 a0l a0c, .slice b1 b1l b1c]⟩ w R :=
  calls_of_vc tabOk bdOk mixed (fn := Tryz.f18) (c := bodyOf Tryz.f18) (pl := plan_revertref17_Ids) Tryz.func18 (by kernel_rfl) (Nat.le_of_ble_eq_true (by kernel_rfl)) (by kernel_rfl)
    (Eq.mp (show V_revertref17_Ids a0 a0l a0c b1 b1l b1c R w = vcFun P Tb Bd plan_revertref17_Ids (raw Tryz.f18.ntmps) Tryz.f18.results.toList (bodyOf Tryz.f18) [.slice a0 a0l a0c, .slice b1 b1l b1c] R w by kernel_rfl) h)

def V_revertref11_New (n0 : Int) (R : Ending → World → Prop) (w : World) : Prop :=
 letW (w.alloc (.cells ⟨[.slice none 0 0, .slice none 0 0]⟩ T.«revertref11_Device»)) fun u0 =>
 ∃ (I3 : Tup [(4, (.int .i64))] → World → Prop) (μ3 : Tup [(4, (.int .i64))] → World → Nat), I3 (0, ()) u0 ∧
 ∀ (junk3 : St) (n4 : Int) (wL3 : World), I3 (n4, ()) wL3 →
 bcase (decide (n4 < n0)) (
  ∀ wd5, Drew wL3 wd5 →
  ∃ (a16 : Option Addr) (l16 c16 : Nat), wd5.cell? ((⟨w.heap.size, 0, none⟩ : Addr).add 0) = some (.slice a16 l16 c16) ∧
  ∃ (a17 : Option Addr) (l17 c17 : Nat), ∃ w17, (Instr.makeSlice T.«l_u8» (.int .i64 64) (.int .i64 64)).run P wd5 = .ok (.slice a17 l17 c17) w17 ∧
  (∃ (a16_3 : Option Addr) (l16_3 c16_3 : Nat), w17.cell? ((⟨w.heap.size, 0, none⟩ : Addr).add 0) = some (.slice a16_3 l16_3 c16_3) ∧
   (.slice a16_3 l16_3 c16_3 : Value) = (.slice a16 l16 c16)) ∧
  ∃ s18 : ByteArray, ∃ w18, (convert T.«l_u8» T.«string» (.slice a17 l17 c17)).run P w17 = .ok (.string s18) w18 ∧
  (∃ (a16_2 : Option Addr) (l16_2 c16_2 : Nat), w18.cell? ((⟨w.heap.size, 0, none⟩ : Addr).add 0) = some (.slice a16_2 l16_2 c16_2) ∧
   (.slice a16_2 l16_2 c16_2 : Value) = (.slice a16 l16 c16)) ∧
  ∃ (a19 : Option Addr) (l19 c19 : Nat), ∃ w19, (Instr.buildSlice T.«l_string» 1 ⟨[(0, .string s18)]⟩).run P w18 = .ok (.slice a19 l19 c19) w19 ∧
  (∃ (a16_1 : Option Addr) (l16_1 c16_1 : Nat), w19.cell? ((⟨w.heap.size, 0, none⟩ : Addr).add 0) = some (.slice a16_1 l16_1 c16_1) ∧
   (.slice a16_1 l16_1 c16_1 : Value) = (.slice a16 l16 c16)) ∧
  ∃ (a20 : Option Addr) (l20 c20 : Nat), ∃ w20, (Builtin.append_ ⟨[T.«l_string», T.«l_string»]⟩ T.«l_string» ⟨[.slice a16 l16 c16, .slice a19 l19 c19]⟩).run P w19 = .ok (.slice a20 l20 c20) w20 ∧
  (∃ old, w20.cell? (((⟨w.heap.size, 0, none⟩ : Addr).add 0).add 0) = some old) ∧ w20.frozen? (((⟨w.heap.size, 0, none⟩ : Addr).add 0).add 0) = false ∧
  letW (w20.setCell (((⟨w.heap.size, 0, none⟩ : Addr).add 0).add 0) (.slice a20 l20 c20)) fun u0_1 =>
  I3 ((IntKind.wrap .i64 (n4 + 1)), ()) u0_1 ∧ μ3 ((IntKind.wrap .i64 (n4 + 1)), ()) u0_1 < μ3 (n4, ()) wL3)
 (R (.returned (.pointer (some ⟨w.heap.size, 0, none⟩))) wL3)
def plan_revertref11_New : Plan := { loops := fun i => match i with | 48 => ([(4, (.int .i64))], [4, 7, 8, 9, 10, 11, 12, 13, 14, 15, 16, 17, 18, 19, 20, 21, 22]) | _ => ([], []), cuts := fun i => match i with | _ => none, head := fun i => match i with | _ => none, rng := fun i => match i with | _ => [], stg := fun i => match i with | 5 => some ((.q 0 (.q 1 (.q 2 (.q 3 (.q 4 (.w 5 [4] (.w 6 [4] (.w 7 [4] (.w 8 [] (.q 9 (.q 10 (.w 11 [] .done)))))))))))), [0, 0, 2, 6, 14, 0, 32, 96, 254, 511, 1023, 2047]) | _ => none }
theorem ok_revertref11_New {n0 : Int} {R : Ending → World → Prop} {w : World} (h : V_revertref11_New n0 R w) : Calls P F.«revertref11_New» ⟨[.int .i64 n0]⟩ w R :=
  calls_of_vc tabOk bdOk mixed (fn := Tryz.f19) (c := bodyOf Tryz.f19) (pl := plan_revertref11_New) Tryz.func19 (by kernel_rfl) (Nat.le_of_ble_eq_true (by kernel_rfl)) (by kernel_rfl)
    (Eq.mp (show V_revertref11_New n0 R w = vcFun P Tb Bd plan_revertref11_New (raw Tryz.f19.ntmps) Tryz.f19.results.toList (bodyOf Tryz.f19) [.int .i64 n0] R w by kernel_rfl) h)

def V_line_Line_Write (l0 : Option Addr) (atx1 : Int) (s2 : ByteArray) (R : Ending → World → Prop) (w : World) : Prop :=
 letW (w.alloc (.cells ⟨[.pointer l0]⟩ T.«p_line_Line»)) fun u0 =>
 letW (u0.alloc (.cells ⟨[.int .i64 atx1]⟩ T.«i64'»)) fun u0_1 =>
 letW (u0_1.alloc (.cells ⟨[.string s2]⟩ T.«string»)) fun u0_2 =>
 ∃ p7 : Option Addr, u0_2.cell? ⟨w.heap.size, 0, none⟩ = some (.pointer p7) ∧
 Calls P F.«line_Line_act» ⟨[.pointer p7, .func (.func F.«line_Line_Write_1») ⟨[]⟩ ⟨[.pointer (some ⟨w.heap.size, 0, none⟩), .pointer (some ⟨u0.heap.size, 0, none⟩), .pointer (some ⟨u0_1.heap.size, 0, none⟩)]⟩]⟩ u0_2 fun e9 w9 => ∃ n9 : Int, e9 = .returned (.int .i64 n9) ∧
 R (.returned (.int .i64 n9)) w9
def plan_line_Line_Write : Plan := { loops := fun i => match i with | _ => ([], []), cuts := fun i => match i with | _ => none, head := fun i => match i with | _ => none, rng := fun i => match i with | _ => [] }
theorem ok_line_Line_Write {l0 : Option Addr} {atx1 : Int} {s2 : ByteArray} {R : Ending → World → Prop} {w : World} (h : V_line_Line_Write l0 atx1 s2 R w) : Calls P F.«line_Line_Write» ⟨[.pointer l0, .int .i64 atx1, .string s2]⟩ w R :=
  calls_of_vc tabOk bdOk mixed (fn := Tryz.f20) (c := bodyOf Tryz.f20) (pl := plan_line_Line_Write) Tryz.func20 (by kernel_rfl) (Nat.le_of_ble_eq_true (by kernel_rfl)) (by kernel_rfl)
    (Eq.mp (show V_line_Line_Write l0 atx1 s2 R w = vcFun P Tb Bd plan_line_Line_Write (raw Tryz.f20.ntmps) Tryz.f20.results.toList (bodyOf Tryz.f20) [.pointer l0, .int .i64 atx1, .string s2] R w by kernel_rfl) h)

def V_revertref12_Line_Write (l0 : Option Addr) (atx1 : Int) (s2 : ByteArray) (R : Ending → World → Prop) (w : World) : Prop :=
 ptrW l0 fun a8 =>
 ∃ b10 : Bool, w.cell? (a8.add 4) = some (.bool b10) ∧
 bcase b10 (
  R (.returned (.int .i64 8)) w)
 (Calls P F.«revertref12_Line_counted» ⟨[.pointer l0]⟩ w fun e12 w12 => ∃ b12 : Bool, e12 = .returned (.bool b12) ∧
  bcase (!b12) (
   ptrW l0 fun a15 =>
   ∃ p17 : Option Addr, w12.cell? (a15.add 0) = some (.pointer p17) ∧
   Calls P F.«revertref11_Device_Write» ⟨[.pointer p17, .int .i64 atx1, .string s2]⟩ w12 fun e20 w20 => ∃ n20 : Int, e20 = .returned (.int .i64 n20) ∧
   R (.returned (.int .i64 n20)) w20)
  (Calls P F.«revertref12_Line_odd» ⟨[.pointer l0]⟩ w12 fun e22 w22 => ∃ b22 : Bool, e22 = .returned (.bool b22) ∧
   bcase b22 (
    ptrW l0 fun a24 =>
    ∃ p26 : Option Addr, w22.cell? (a24.add 0) = some (.pointer p26) ∧
    Calls P F.«revertref11_Device_Write» ⟨[.pointer p26, .int .i64 atx1, .string s2]⟩ w22 fun e29 w29 => ∃ n29 : Int, e29 = .returned (.int .i64 n29) ∧
    Calls P F.«revertref12_Line_Blow» ⟨[.pointer l0]⟩ w29 fun e31 w31 => e31 = .returned (.tuple ⟨[]⟩) ∧
    R (.returned (.int .i64 8)) w31)
   (Calls P F.«revertref12_Line_Blow» ⟨[.pointer l0]⟩ w22 fun e31_1 w31_1 => e31_1 = .returned (.tuple ⟨[]⟩) ∧
    R (.returned (.int .i64 8)) w31_1)))
def plan_revertref12_Line_Write : Plan := { loops := fun i => match i with | _ => ([], []), cuts := fun i => match i with | _ => none, head := fun i => match i with | _ => none, rng := fun i => match i with | _ => [] }
theorem ok_revertref12_Line_Write {l0 : Option Addr} {atx1 : Int} {s2 : ByteArray} {R : Ending → World → Prop} {w : World} (h : V_revertref12_Line_Write l0 atx1 s2 R w) : Calls P F.«revertref12_Line_Write» ⟨[.pointer l0, .int .i64 atx1, .string s2]⟩ w R :=
  calls_of_vc tabOk bdOk mixed (fn := Tryz.f21) (c := bodyOf Tryz.f21) (pl := plan_revertref12_Line_Write) Tryz.func21 (by kernel_rfl) (Nat.le_of_ble_eq_true (by kernel_rfl)) (by kernel_rfl)
    (Eq.mp (show V_revertref12_Line_Write l0 atx1 s2 R w = vcFun P Tb Bd plan_revertref12_Line_Write (raw Tryz.f21.ntmps) Tryz.f21.results.toList (bodyOf Tryz.f21) [.pointer l0, .int .i64 atx1, .string s2] R w by kernel_rfl) h)

def V_pool_Load (l0 : Option Addr) (next1 : Int) (chunks2 : Option Addr) (chunks2l chunks2c : Nat) (R : Ending → World → Prop) (w : World) : Prop :=
 Calls P F.«pool_Make» ⟨[.pointer l0]⟩ w fun e13 w13 => ∃ p13 : Option Addr, e13 = .returned (.pointer p13) ∧
 bcase ((p13).isNone) (
  R (.returned (.tuple ⟨[.pointer none, .int .i64 1]⟩)) w13)
 (∃ (I5 : Tup [(18, (.int .i64))] → World → Prop) (μ5 : Tup [(18, (.int .i64))] → World → Nat), I5 (0, ()) w13 ∧
  ∀ (junk5 : St) (n18 : Int) (wL5 : World), I5 (n18, ()) wL5 →
  bcase (decide (n18 < (chunks2l : Int))) (
   (0 ≤ n18 ∧ n18 < (chunks2l : Int)) ∧
   ptrW chunks2 fun a20 =>
   ∃ n21_0 : Int, ∃ n21_1 : Int, ∃ n21_2 : Int, ∃ n21_3 : Int, (wL5.cell? ((a20.add (n18.toNat * 4)).add 0) = some (.int .u32 n21_0) ∧ wL5.cell? ((a20.add (n18.toNat * 4)).add 1) = some (.int .i64 n21_1) ∧ wL5.cell? ((a20.add (n18.toNat * 4)).add 2) = some (.int .i64 n21_2) ∧ wL5.cell? ((a20.add (n18.toNat * 4)).add 3) = some (.int .i64 n21_3) ∧ True) ∧
   letW (wL5.alloc (.cells ⟨[(.int .u32 0), (.int .i64 0), (.int .i64 0), (.int .i64 0)]⟩ T.«pool_Chunk»)) fun u0 =>
   (∃ old, u0.cell? ((⟨wL5.heap.size, 0, none⟩ : Addr).add 0) = some old) ∧ u0.frozen? ((⟨wL5.heap.size, 0, none⟩ : Addr).add 0) = false ∧
   letW (u0.setCell ((⟨wL5.heap.size, 0, none⟩ : Addr).add 0) (.int .u32 n21_0)) fun u0_1 =>
   (∃ old, u0_1.cell? ((⟨wL5.heap.size, 0, none⟩ : Addr).add 1) = some old) ∧ u0_1.frozen? ((⟨wL5.heap.size, 0, none⟩ : Addr).add 1) = false ∧
   letW (u0_1.setCell ((⟨wL5.heap.size, 0, none⟩ : Addr).add 1) (.int .i64 n21_1)) fun u0_2 =>
   (∃ old, u0_2.cell? ((⟨wL5.heap.size, 0, none⟩ : Addr).add 2) = some old) ∧ u0_2.frozen? ((⟨wL5.heap.size, 0, none⟩ : Addr).add 2) = false ∧
   letW (u0_2.setCell ((⟨wL5.heap.size, 0, none⟩ : Addr).add 2) (.int .i64 n21_2)) fun u0_3 =>
   (∃ old, u0_3.cell? ((⟨wL5.heap.size, 0, none⟩ : Addr).add 3) = some old) ∧ u0_3.frozen? ((⟨wL5.heap.size, 0, none⟩ : Addr).add 3) = false ∧
   letW (u0_3.setCell ((⟨wL5.heap.size, 0, none⟩ : Addr).add 3) (.int .i64 n21_3)) fun u0_4 =>
   ∃ n23_0 : Int, ∃ n23_1 : Int, ∃ n23_2 : Int, ∃ n23_3 : Int, (u0_4.cell? ((⟨wL5.heap.size, 0, none⟩ : Addr).add 0) = some (.int .u32 n23_0) ∧ u0_4.cell? ((⟨wL5.heap.size, 0, none⟩ : Addr).add 1) = some (.int .i64 n23_1) ∧ u0_4.cell? ((⟨wL5.heap.size, 0, none⟩ : Addr).add 2) = some (.int .i64 n23_2) ∧ u0_4.cell? ((⟨wL5.heap.size, 0, none⟩ : Addr).add 3) = some (.int .i64 n23_3) ∧ True) ∧
   Calls P F.«pool_Pool_load» ⟨[.pointer p13, .agg ⟨[.int .u32 n23_0, .int .i64 n23_1, .int .i64 n23_2, .int .i64 n23_3]⟩]⟩ u0_4 fun e24 w24 => ∃ n24 : Int, e24 = .returned (.int .i64 n24) ∧
   bcase (n24 != 0) (
    R (.returned (.tuple ⟨[.pointer none, .int .i64 n24]⟩)) w24)
   (I5 ((IntKind.wrap .i64 (n18 + 1)), ()) w24 ∧ μ5 ((IntKind.wrap .i64 (n18 + 1)), ()) w24 < μ5 (n18, ()) wL5))
  (ptrW p13 fun a30 =>
   ∃ p32 : Option Addr, wL5.cell? (a30.add 1) = some (.pointer p32) ∧
   Calls P F.«dedup_Table_Skip» ⟨[.pointer p32, .int .u32 next1]⟩ wL5 fun e34 w34 => e34 = .returned (.tuple ⟨[]⟩) ∧
   R (.returned (.tuple ⟨[.pointer p13, .int .i64 0]⟩)) w34))
def plan_pool_Load : Plan := { loops := fun i => match i with | 80 => ([(18, (.int .i64))], [6, 7, 10, 11, 18, 19, 20, 21, 22, 23, 24, 25, 26, 27, 28]) | _ => ([], []), cuts := fun i => match i with | _ => none, head := fun i => match i with | _ => none, rng := fun i => match i with | _ => [] }
theorem ok_pool_Load {l0 : Option Addr} {next1 : Int} {chunks2 : Option Addr} {chunks2l chunks2c : Nat} {R : Ending → World → Prop} {w : World} (h : V_pool_Load l0 next1 chunks2 chunks2l chunks2c R w) : Calls P F.«pool_Load» ⟨[.pointer l0, .int .u32 next1, .slice chunks2 chunks2l chunks2c]⟩ w R :=
  calls_of_vc tabOk bdOk mixed (fn := Tryz.f22) (c := bodyOf Tryz.f22) (pl := plan_pool_Load) Tryz.func22 (by kernel_rfl) (Nat.le_of_ble_eq_true (by kernel_rfl)) (by kernel_rfl)
    (Eq.mp (show V_pool_Load l0 next1 chunks2 chunks2l chunks2c R w = vcFun P Tb Bd plan_pool_Load (raw Tryz.f22.ntmps) Tryz.f22.results.toList (bodyOf Tryz.f22) [.pointer l0, .int .u32 next1, .slice chunks2 chunks2l chunks2c] R w by kernel_rfl) h)

def V_revertref17_Load (l0 : Option Addr) (next1 : Int) (chunks2 : Option Addr) (chunks2l chunks2c : Nat) (R : Ending → World → Prop) (w : World) : Prop :=
 Calls P F.«revertref17_Make» ⟨[.pointer l0]⟩ w fun e17 w17 => ∃ p17 : Option Addr, e17 = .returned (.pointer p17) ∧
 ∃ (I3 : Tup [(9, (.int .i64))] → World → Prop) (μ3 : Tup [(9, (.int .i64))] → World → Nat), I3 (0, ()) w17 ∧
 ∀ (junk3 : St) (n9 : Int) (wL3 : World), I3 (n9, ()) wL3 →
 bcase (decide (n9 < (chunks2l : Int))) (
  (0 ≤ n9 ∧ n9 < (chunks2l : Int)) ∧
  ptrW chunks2 fun a26 =>
  ∃ n27_0 : Int, ∃ n27_1 : Int, ∃ n27_2 : Int, ∃ n27_3 : Int, (wL3.cell? ((a26.add (n9.toNat * 4)).add 0) = some (.int .u32 n27_0) ∧ wL3.cell? ((a26.add (n9.toNat * 4)).add 1) = some (.int .i64 n27_1) ∧ wL3.cell? ((a26.add (n9.toNat * 4)).add 2) = some (.int .i64 n27_2) ∧ wL3.cell? ((a26.add (n9.toNat * 4)).add 3) = some (.int .i64 n27_3) ∧ True) ∧
  letW (wL3.alloc (.cells ⟨[(.int .u32 0), (.int .i64 0), (.int .i64 0), (.int .i64 0)]⟩ T.«revertref17_Chunk»)) fun u0 =>
  (∃ old, u0.cell? ((⟨wL3.heap.size, 0, none⟩ : Addr).add 0) = some old) ∧ u0.frozen? ((⟨wL3.heap.size, 0, none⟩ : Addr).add 0) = false ∧
  letW (u0.setCell ((⟨wL3.heap.size, 0, none⟩ : Addr).add 0) (.int .u32 n27_0)) fun u0_1 =>
  (∃ old, u0_1.cell? ((⟨wL3.heap.size, 0, none⟩ : Addr).add 1) = some old) ∧ u0_1.frozen? ((⟨wL3.heap.size, 0, none⟩ : Addr).add 1) = false ∧
  letW (u0_1.setCell ((⟨wL3.heap.size, 0, none⟩ : Addr).add 1) (.int .i64 n27_1)) fun u0_2 =>
  (∃ old, u0_2.cell? ((⟨wL3.heap.size, 0, none⟩ : Addr).add 2) = some old) ∧ u0_2.frozen? ((⟨wL3.heap.size, 0, none⟩ : Addr).add 2) = false ∧
  letW (u0_2.setCell ((⟨wL3.heap.size, 0, none⟩ : Addr).add 2) (.int .i64 n27_2)) fun u0_3 =>
  (∃ old, u0_3.cell? ((⟨wL3.heap.size, 0, none⟩ : Addr).add 3) = some old) ∧ u0_3.frozen? ((⟨wL3.heap.size, 0, none⟩ : Addr).add 3) = false ∧
  letW (u0_3.setCell ((⟨wL3.heap.size, 0, none⟩ : Addr).add 3) (.int .i64 n27_3)) fun u0_4 =>
  Calls P F.«revertref17_Pool_free» ⟨[.pointer p17]⟩ u0_4 fun e29 w29 => ∃ (a29 : Option Addr) (l29 c29 : Nat), e29 = .returned (.slice a29 l29 c29) ∧
  ∃ (I9 : Tup [(12, .bool), (13, (.int .i64))] → World → Prop) (μ9 : Tup [(12, .bool), (13, (.int .i64))] → World → Nat), I9 (false, 0, ()) w29 ∧
  ∀ (junk9 : St) (b12 : Bool) (n13 : Int) (wL9 : World), I9 (b12, n13, ()) wL9 →
  bcase (decide (n13 < (l29 : Int))) (
   bcase b12 (
    ∀ wd11, Drew wL9 wd11 →
    I9 (true, (IntKind.wrap .i64 (n13 + 1)), ()) wd11 ∧ μ9 (true, (IntKind.wrap .i64 (n13 + 1)), ()) wd11 < μ9 (b12, n13, ()) wL9)
   ((0 ≤ n13 ∧ n13 < (l29 : Int)) ∧
    ptrW a29 fun a40 =>
    ∃ n41 : Int, wL9.cell? (a40.add (n13.toNat * 1)) = some (.int .i64 n41) ∧
    ∃ n43 : Int, wL9.cell? ((⟨wL3.heap.size, 0, none⟩ : Addr).add 1) = some (.int .i64 n43) ∧
    ∀ wd11, Drew wL9 wd11 →
    I9 ((n41 == n43), (IntKind.wrap .i64 (n13 + 1)), ()) wd11 ∧ μ9 ((n41 == n43), (IntKind.wrap .i64 (n13 + 1)), ()) wd11 < μ9 (b12, n13, ()) wL9))
  (∃ n47 : Int, wL9.cell? ((⟨wL3.heap.size, 0, none⟩ : Addr).add 3) = some (.int .i64 n47) ∧
   bcase (decide (n47 < 1)) (
    R (.returned (.tuple ⟨[.pointer none, .int .i64 4]⟩)) wL9)
   (∃ n51 : Int, wL9.cell? ((⟨wL3.heap.size, 0, none⟩ : Addr).add 3) = some (.int .i64 n51) ∧
    bcase (decide (n51 > 64)) (
     R (.returned (.tuple ⟨[.pointer none, .int .i64 4]⟩)) wL9)
    (bcase (!b12) (
      R (.returned (.tuple ⟨[.pointer none, .int .i64 4]⟩)) wL9)
     (∃ n61 : Int, wL9.cell? ((⟨wL3.heap.size, 0, none⟩ : Addr).add 1) = some (.int .i64 n61) ∧
      Calls P F.«revertref12_Line_Read» ⟨[.pointer l0, .int .i64 n61]⟩ wL9 fun e62 w62 => ∃ s62_a : ByteArray, ∃ n62_b : Int, e62 = .returned (.tuple ⟨[.string s62_a, .int .i64 n62_b]⟩) ∧
      bcase (n62_b != 0) (
       R (.returned (.tuple ⟨[.pointer none, .int .i64 n62_b]⟩)) w62)
      (∀ wd17, Drew w62 wd17 →
       ptrW p17 fun a69 =>
       ∃ p71 : Option Addr, wd17.cell? (a69.add 1) = some (.pointer p71) ∧
       ∃ n73 : Int, wd17.cell? ((⟨wL3.heap.size, 0, none⟩ : Addr).add 0) = some (.int .u32 n73) ∧
       ∃ n76 : Int, wd17.cell? ((⟨wL3.heap.size, 0, none⟩ : Addr).add 3) = some (.int .i64 n76) ∧
       (0 ≤ (0 : Int) ∧ (0 : Int) ≤ n76 ∧ n76 ≤ (s62_a.size : Int)) ∧
       ∃ n79 : Int, wd17.cell? ((⟨wL3.heap.size, 0, none⟩ : Addr).add 1) = some (.int .i64 n79) ∧
       ∃ n81 : Int, wd17.cell? ((⟨wL3.heap.size, 0, none⟩ : Addr).add 2) = some (.int .i64 n81) ∧
       Calls P F.«revertref16_Table_Load» ⟨[.pointer p71, .agg ⟨[.int .u32 n73, .string (s62_a.extract (0 : Int).toNat n76.toNat), .int .i64 n79, .int .i64 n81]⟩]⟩ wd17 fun e83 w83 => ∃ n83 : Int, e83 = .returned (.int .i64 n83) ∧
       bcase (n83 != 0) (
        R (.returned (.tuple ⟨[.pointer none, .int .i64 4]⟩)) w83)
       (I3 ((IntKind.wrap .i64 (n9 + 1)), ()) w83 ∧ μ3 ((IntKind.wrap .i64 (n9 + 1)), ()) w83 < μ3 (n9, ()) wL3)))))))
 (ptrW p17 fun a86 =>
  ∃ p88 : Option Addr, wL3.cell? (a86.add 1) = some (.pointer p88) ∧
  Calls P F.«revertref16_Table_Skip» ⟨[.pointer p88, .int .u32 next1]⟩ wL3 fun e90 w90 => e90 = .returned (.tuple ⟨[]⟩) ∧
  R (.returned (.tuple ⟨[.pointer p17, .int .i64 0]⟩)) w90)
def plan_revertref17_Load : Plan := { loops := fun i => match i with | 48 => ([(9, (.int .i64))], [6, 7, 9, 10, 11, 12, 13, 14, 15, 18, 19, 20, 21, 22, 23, 24, 25, 26, 27, 28, 29, 30, 31, 32, 33, 34, 35, 36, 37, 38, 39, 40, 41, 42, 43, 44, 45, 46, 47, 48, 49, 50, 51, 52, 53, 54, 55, 56, 57, 58, 59, 60, 61, 62, 63, 64, 65, 66, 67, 68, 69, 70, 71, 72, 73, 74, 75, 76, 77, 78, 79, 80, 81, 82, 83, 84]) | 144 => ([(12, .bool), (13, (.int .i64))], [12, 13, 30, 31, 32, 33, 34, 35, 36, 37, 38, 39, 40, 41, 42, 43, 44, 45]) | _ => ([], []), cuts := fun i => match i with | _ => none, head := fun i => match i with | 11 => some ([], [0, 1, 2, 3, 4, 5, 6, 7, 8, 9, 10], []) | _ => none, rng := fun i => match i with | _ => [], stg := fun i => match i with | 17 => some ((.q 0 (.q 1 (.q 2 (.q 3 (.q 4 (.q 5 (.q 6 (.q 7 (.q 8 (.q 9 (.q 10 (.q 11 (.q 12 (.q 13 (.q 14 (.w 15 [] (.q 16 .done))))))))))))))))), [0, 1, 3, 7, 0, 16, 0, 0, 128, 448, 0, 1024, 0, 4096, 16368, 32767, 65535]) | _ => none }
theorem ok_revertref17_Load {l0 : Option Addr} {next1 : Int} {chunks2 : Option Addr} {chunks2l chunks2c : Nat} {R : Ending → World → Prop} {w : World} (h : V_revertref17_Load l0 next1 chunks2 chunks2l chunks2c R w) : Calls P F.«revertref17_Load» ⟨[.pointer l0, .int .u32 next1, .slice chunks2 chunks2l chunks2c]⟩ w R :=
  calls_of_vc tabOk bdOk mixed (fn := Tryz.f23) (c := bodyOf Tryz.f23) (pl := plan_revertref17_Load) Tryz.func23 (by kernel_rfl) (Nat.le_of_ble_eq_true (by kernel_rfl)) (by kernel_rfl)
    (Eq.mp (show V_revertref17_Load l0 next1 chunks2 chunks2l chunks2c R w = vcFun P Tb Bd plan_revertref17_Load (raw Tryz.f23.ntmps) Tryz.f23.results.toList (bodyOf Tryz.f23) [.pointer l0, .int .u32 next1, .slice chunks2 chunks2l chunks2c] R w by kernel_rfl) h)

def V_revertlaw17_theirs (l0 : Option Addr) (l0l l0c : Nat) (R : Ending → World → Prop) (w : World) : Prop :=
 ∃ (I3 : Tup [(3, .slice), (4, (.int .i64))] → World → Prop) (μ3 : Tup [(3, .slice), (4, (.int .i64))] → World → Nat), I3 ((none, 0, 0), 0, ()) w ∧
 ∀ (junk3 : St) (a3 : Option Addr) (l3 c3 : Nat) (n4 : Int) (wL3 : World), I3 ((a3, l3, c3), n4, ()) wL3 →
 bcase (decide (n4 < (l0l : Int))) (
  (0 ≤ n4 ∧ n4 < (l0l : Int)) ∧
  ptrW l0 fun a14 =>
  ∃ n15_0 : Int, ∃ n15_1 : Int, ∃ n15_2 : Int, ∃ n15_3 : Int, (wL3.cell? ((a14.add (n4.toNat * 4)).add 0) = some (.int .u32 n15_0) ∧ wL3.cell? ((a14.add (n4.toNat * 4)).add 1) = some (.int .i64 n15_1) ∧ wL3.cell? ((a14.add (n4.toNat * 4)).add 2) = some (.int .i64 n15_2) ∧ wL3.cell? ((a14.add (n4.toNat * 4)).add 3) = some (.int .i64 n15_3) ∧ True) ∧
  ∃ (a16 : Option Addr) (l16 c16 : Nat), ∃ w16, (Instr.buildSlice T.«l_revertref17_Chunk» 1 ⟨[(0, .agg ⟨[.int .u32 n15_0, .int .i64 n15_1, .int .i64 n15_2, .int .i64 n15_3]⟩)]⟩).run P wL3 = .ok (.slice a16 l16 c16) w16 ∧
  ∃ (a17 : Option Addr) (l17 c17 : Nat), ∃ w17, (Builtin.append_ ⟨[T.«l_revertref17_Chunk», T.«l_revertref17_Chunk»]⟩ T.«l_revertref17_Chunk» ⟨[.slice a3 l3 c3, .slice a16 l16 c16]⟩).run P w16 = .ok (.slice a17 l17 c17) w17 ∧
  I3 ((a17, l17, c17), (IntKind.wrap .i64 (n4 + 1)), ()) w17 ∧ μ3 ((a17, l17, c17), (IntKind.wrap .i64 (n4 + 1)), ()) w17 < μ3 ((a3, l3, c3), n4, ()) wL3)
 (R (.returned (.slice a3 l3 c3)) wL3)
def plan_revertlaw17_theirs : Plan := { loops := fun i => match i with | 48 => ([(3, .slice), (4, (.int .i64))], [3, 4, 5, 6, 7, 8, 9, 10, 11, 12, 13, 14, 15, 16, 17]) | _ => ([], []), cuts := fun i => match i with | _ => none, head := fun i => match i with | _ => none, rng := fun i => match i with | _ => [] }
theorem ok_revertlaw17_theirs {l0 : Option Addr} {l0l l0c : Nat} {R : Ending → World → Prop} {w : World} (h : V_revertlaw17_theirs l0 l0l l0c R w) : Calls P F.«revertlaw17_theirs» ⟨[.slice l0 l0l l0c]⟩ w R :=
  calls_of_vc tabOk bdOk mixed (fn := Tryz.f24) (c := bodyOf Tryz.f24) (pl := plan_revertlaw17_theirs) Tryz.func24 (by kernel_rfl) (Nat.le_of_ble_eq_true (by kernel_rfl)) (by kernel_rfl)
    (Eq.mp (show V_revertlaw17_theirs l0 l0l l0c R w = vcFun P Tb Bd plan_revertlaw17_theirs (raw Tryz.f24.ntmps) Tryz.f24.results.toList (bodyOf Tryz.f24) [.slice l0 l0l l0c] R w by kernel_rfl) h)

def V_pool_Pool_Get (p0 : Option Addr) (ids1 : Option Addr) (ids1l ids1c : Nat) (size2 : Int) (R : Ending → World → Prop) (w : World) : Prop :=
 Calls P F.«pool_Pool_is» ⟨[.pointer p0]⟩ w fun e16 w16 => ∃ b16 : Bool, e16 = .returned (.bool b16) ∧
 bcase (!b16) (
  R (.returned (.tuple ⟨[.string (bs []), .int .i64 1]⟩)) w16)
 (letW (w16.alloc (.cells ⟨[(.pointer none), (.slice none 0 0)]⟩ T.«strings_Builder»)) fun u0 =>
  ∃ (I5 : Tup [(20, (.int .i64))] → World → Prop) (μ5 : Tup [(20, (.int .i64))] → World → Nat), I5 (0, ()) u0 ∧
  ∀ (junk5 : St) (n20 : Int) (wL5 : World), I5 (n20, ()) wL5 →
  bcase (decide (n20 < (ids1l : Int))) (
   (0 ≤ n20 ∧ n20 < (ids1l : Int)) ∧
   ptrW ids1 fun a22 =>
   ∃ n23 : Int, wL5.cell? (a22.add (n20.toNat * 1)) = some (.int .u32 n23) ∧
   ptrW p0 fun a26 =>
   ∃ p28 : Option Addr, wL5.cell? (a26.add 1) = some (.pointer p28) ∧
   Calls P F.«dedup_Table_Get» ⟨[.pointer p28, .int .u32 n23]⟩ wL5 fun e30 w30 => ∃ s30_a : ByteArray, ∃ n30_b : Int, ∃ n30_c : Int, ∃ b30_d : Bool, e30 = .returned (.tuple ⟨[.string s30_a, .int .i64 n30_b, .int .i64 n30_c, .bool b30_d]⟩) ∧
   bcase (!b30_d) (
    R (.returned (.tuple ⟨[.string (bs []), .int .i64 5]⟩)) w30)
   (Calls P F.«strings_Builder_WriteString» ⟨[.pointer (some ⟨w16.heap.size, 0, none⟩), .string s30_a]⟩ w30 fun e38 w38 => ∃ n38_a : Int, ∃ v38_b : Value, e38 = .returned (.tuple ⟨[.int .i64 n38_a, v38_b]⟩) ∧
    I5 ((IntKind.wrap .i64 (n20 + 1)), ()) w38 ∧ μ5 ((IntKind.wrap .i64 (n20 + 1)), ()) w38 < μ5 (n20, ()) wL5))
  (Calls P F.«strings_Builder_Len» ⟨[.pointer (some ⟨w16.heap.size, 0, none⟩)]⟩ wL5 fun e40 w40 => ∃ n40 : Int, e40 = .returned (.int .i64 n40) ∧
   bcase (n40 != size2) (
    R (.returned (.tuple ⟨[.string (bs []), .int .i64 4]⟩)) w40)
   (Calls P F.«strings_Builder_String» ⟨[.pointer (some ⟨w16.heap.size, 0, none⟩)]⟩ w40 fun e43 w43 => ∃ s43 : ByteArray, e43 = .returned (.string s43) ∧
    R (.returned (.tuple ⟨[.string s43, .int .i64 0]⟩)) w43)))
def plan_pool_Pool_Get : Plan := { loops := fun i => match i with | 80 => ([(20, (.int .i64))], [6, 7, 10, 11, 12, 13, 14, 20, 21, 22, 23, 24, 25, 26, 27, 28, 29, 30, 31, 32, 33, 34, 35, 36, 37, 38, 39]) | _ => ([], []), cuts := fun i => match i with | _ => none, head := fun i => match i with | _ => none, rng := fun i => match i with | _ => [] }
theorem ok_pool_Pool_Get {p0 : Option Addr} {ids1 : Option Addr} {ids1l ids1c : Nat} {size2 : Int} {R : Ending → World → Prop} {w : World} (h : V_pool_Pool_Get p0 ids1 ids1l ids1c size2 R w) : Calls P F.«pool_Pool_Get» ⟨[.pointer p0, .slice ids1 ids1l ids1c, .int .i64 size2]⟩ w R :=
  calls_of_vc tabOk bdOk mixed (fn := Tryz.f25) (c := bodyOf Tryz.f25) (pl := plan_pool_Pool_Get) Tryz.func25 (by kernel_rfl) (Nat.le_of_ble_eq_true (by kernel_rfl)) (by kernel_rfl)
    (Eq.mp (show V_pool_Pool_Get p0 ids1 ids1l ids1c size2 R w = vcFun P Tb Bd plan_pool_Pool_Get (raw Tryz.f25.ntmps) Tryz.f25.results.toList (bodyOf Tryz.f25) [.pointer p0, .slice ids1 ids1l ids1c, .int .i64 size2] R w by kernel_rfl) h)

def V_revertref17_Pool_Get (p0 : Option Addr) (ids1 : Option Addr) (ids1l ids1c : Nat) (size2 : Int) (R : Ending → World → Prop) (w : World) : Prop :=
 ∃ (I3 : Tup [(8, .str), (9, (.int .i64))] → World → Prop) (μ3 : Tup [(8, .str), (9, (.int .i64))] → World → Nat), I3 ((bs []), 0, ()) w ∧
 ∀ (junk3 : St) (s8 : ByteArray) (n9 : Int) (wL3 : World), I3 (s8, n9, ()) wL3 →
 bcase (decide (n9 < (ids1l : Int))) (
  ∀ wd5, Drew wL3 wd5 →
  ptrW p0 fun a18 =>
  ∃ p20 : Option Addr, wd5.cell? (a18.add 1) = some (.pointer p20) ∧
  (0 ≤ n9 ∧ n9 < (ids1l : Int)) ∧
  ptrW ids1 fun a23 =>
  ∃ n24 : Int, wd5.cell? (a23.add (n9.toNat * 1)) = some (.int .u32 n24) ∧
  Calls P F.«revertref16_Table_At» ⟨[.pointer p20, .int .u32 n24]⟩ wd5 fun e25 w25 => ∃ n25 : Int, e25 = .returned (.int .i64 n25) ∧
  bcase (decide (n25 < 0)) (
   R (.returned (.tuple ⟨[.string (bs []), .int .i64 5]⟩)) w25)
  (ptrW p0 fun a30 =>
   ∃ p32 : Option Addr, w25.cell? (a30.add 1) = some (.pointer p32) ∧
   ptrW p32 fun a33 =>
   ∃ (a35 : Option Addr) (l35 c35 : Nat), w25.cell? (a33.add 0) = some (.slice a35 l35 c35) ∧
   (0 ≤ n25 ∧ n25 < (l35 : Int)) ∧
   ptrW a35 fun a37 =>
   ∃ s39 : ByteArray, w25.cell? ((a37.add (n25.toNat * 4)).add 1) = some (.string s39) ∧
   ((s8.size + s39.size : Nat) : Int) ≤ 9223372036854775807 ∧
   I3 ((s8 ++ s39), (IntKind.wrap .i64 (n9 + 1)), ()) w25 ∧ μ3 ((s8 ++ s39), (IntKind.wrap .i64 (n9 + 1)), ()) w25 < μ3 (s8, n9, ()) wL3))
 (bcase ((s8.size : Int) != size2) (
   R (.returned (.tuple ⟨[.string (bs []), .int .i64 4]⟩)) wL3)
  (R (.returned (.tuple ⟨[.string s8, .int .i64 0]⟩)) wL3))
def plan_revertref17_Pool_Get : Plan := { loops := fun i => match i with | 48 => ([(8, .str), (9, (.int .i64))], [6, 7, 8, 9, 10, 11, 12, 13, 14, 15, 16, 17, 18, 19, 20, 21, 22, 23, 24, 25, 26, 27, 28, 29, 30, 31, 32, 33, 34, 35, 36, 37, 38, 39, 40]) | _ => ([], []), cuts := fun i => match i with | _ => none, head := fun i => match i with | _ => none, rng := fun i => match i with | _ => [], stg := fun i => match i with | 5 => some ((.q 0 (.q 1 (.q 2 (.q 3 (.q 4 (.q 5 (.q 6 (.q 7 (.w 8 [] (.q 9 .done)))))))))), [0, 1, 3, 7, 0, 0, 48, 112, 255, 511]) | _ => none }
theorem ok_revertref17_Pool_Get {p0 : Option Addr} {ids1 : Option Addr} {ids1l ids1c : Nat} {size2 : Int} {R : Ending → World → Prop} {w : World} (h : V_revertref17_Pool_Get p0 ids1 ids1l ids1c size2 R w) : Calls P F.«revertref17_Pool_Get» ⟨[.pointer p0, .slice ids1 ids1l ids1c, .int .i64 size2]⟩ w R :=
  calls_of_vc tabOk bdOk mixed (fn := Tryz.f26) (c := bodyOf Tryz.f26) (pl := plan_revertref17_Pool_Get) Tryz.func26 (by kernel_rfl) (Nat.le_of_ble_eq_true (by kernel_rfl)) (by kernel_rfl)
    (Eq.mp (show V_revertref17_Pool_Get p0 ids1 ids1l ids1c size2 R w = vcFun P Tb Bd plan_revertref17_Pool_Get (raw Tryz.f26.ntmps) Tryz.f26.results.toList (bodyOf Tryz.f26) [.pointer p0, .slice ids1 ids1l ids1c, .int .i64 size2] R w by kernel_rfl) h)

def V_revertref17_Same (a0 : Option Addr) (a0l a0c : Nat) (b1 : Option Addr) (b1l b1c : Nat) (R : Ending → World → Prop) (w : World) : Prop :=
 bcase ((a0l : Int) != (b1l : Int)) (
  R (.returned (.bool false)) w)
 (∃ (I4 : Tup [(5, (.int .i64))] → World → Prop) (μ4 : Tup [(5, (.int .i64))] → World → Nat), I4 (0, ()) w ∧
  ∀ (junk4 : St) (n5 : Int) (wL4 : World), I4 (n5, ()) wL4 →
  bcase (decide (n5 < (a0l : Int))) (
   (0 ≤ n5 ∧ n5 < (a0l : Int)) ∧
   ptrW a0 fun a19 =>
   ∃ n20_0 : Int, ∃ n20_1 : Int, ∃ n20_2 : Int, ∃ n20_3 : Int, (wL4.cell? ((a19.add (n5.toNat * 4)).add 0) = some (.int .u32 n20_0) ∧ wL4.cell? ((a19.add (n5.toNat * 4)).add 1) = some (.int .i64 n20_1) ∧ wL4.cell? ((a19.add (n5.toNat * 4)).add 2) = some (.int .i64 n20_2) ∧ wL4.cell? ((a19.add (n5.toNat * 4)).add 3) = some (.int .i64 n20_3) ∧ True) ∧
   (0 ≤ n5 ∧ n5 < (b1l : Int)) ∧
   ptrW b1 fun a23 =>
   ∃ n24_0 : Int, ∃ n24_1 : Int, ∃ n24_2 : Int, ∃ n24_3 : Int, (wL4.cell? ((a23.add (n5.toNat * 4)).add 0) = some (.int .u32 n24_0) ∧ wL4.cell? ((a23.add (n5.toNat * 4)).add 1) = some (.int .i64 n24_1) ∧ wL4.cell? ((a23.add (n5.toNat * 4)).add 2) = some (.int .i64 n24_2) ∧ wL4.cell? ((a23.add (n5.toNat * 4)).add 3) = some (.int .i64 n24_3) ∧ True) ∧
   ∃ b25 : Bool, eqlRun P .neq T.«revertref17_Chunk» (.agg ⟨[.int .u32 n20_0, .int .i64 n20_1, .int .i64 n20_2, .int .i64 n20_3]⟩) (.agg ⟨[.int .u32 n24_0, .int .i64 n24_1, .int .i64 n24_2, .int .i64 n24_3]⟩) wL4 b25 ∧
   ∀ wd6, Drew wL4 wd6 →
   bcase b25 (
    R (.returned (.bool false)) wd6)
   (I4 ((IntKind.wrap .i64 (n5 + 1)), ()) wd6 ∧ μ4 ((IntKind.wrap .i64 (n5 + 1)), ()) wd6 < μ4 (n5, ()) wL4))
  (R (.returned (.bool true)) wL4))
def plan_revertref17_Same : Plan := { loops := fun i => match i with | 64 => ([(5, (.int .i64))], [4, 5, 11, 12, 13, 14, 15, 16, 17, 18, 19, 20, 21, 22, 23, 24, 25]) | _ => ([], []), cuts := fun i => match i with | _ => none, head := fun i => match i with | 6 => some ([], [0, 1, 2, 3, 4, 5, 6, 7, 8], []) | _ => none, rng := fun i => match i with | _ => [] }
theorem ok_revertref17_Same {a0 : Option Addr} {a0l a0c : Nat} {b1 : Option Addr} {b1l b1c : Nat} {R : Ending → World → Prop} {w : World} (h : V_revertref17_Same a0 a0l a0c b1 b1l b1c R w) : Calls P F.«revertref17_Same» ⟨[.slice a0 a0l a0c, .slice b1 b1l b1c]⟩ w R :=
  calls_of_vc tabOk bdOk mixed (fn := Tryz.f27) (c := bodyOf Tryz.f27) (pl := plan_revertref17_Same) Tryz.func27 (by kernel_rfl) (Nat.le_of_ble_eq_true (by kernel_rfl)) (by kernel_rfl)
    (Eq.mp (show V_revertref17_Same a0 a0l a0c b1 b1l b1c R w = vcFun P Tb Bd plan_revertref17_Same (raw Tryz.f27.ntmps) Tryz.f27.results.toList (bodyOf Tryz.f27) [.slice a0 a0l a0c, .slice b1 b1l b1c] R w by kernel_rfl) h)

def V_revertref17_Pool_Chunks (p0 : Option Addr) (R : Ending → World → Prop) (w : World) : Prop :=
 ∃ (I3 : Tup [(3, .slice), (4, (.int .i64))] → World → Prop) (μ3 : Tup [(3, .slice), (4, (.int .i64))] → World → Nat), I3 ((none, 0, 0), 0, ()) w ∧
 ∀ (junk3 : St) (a3 : Option Addr) (l3 c3 : Nat) (n4 : Int) (wL3 : World), I3 ((a3, l3, c3), n4, ()) wL3 →
 ptrW p0 fun a8 =>
 ∃ p10 : Option Addr, wL3.cell? (a8.add 1) = some (.pointer p10) ∧
 ptrW p10 fun a11 =>
 ∃ (a13 : Option Addr) (l13 c13 : Nat), wL3.cell? (a11.add 0) = some (.slice a13 l13 c13) ∧
 bcase (decide (n4 < (l13 : Int))) (
  ptrW p0 fun a19 =>
  ∃ p21 : Option Addr, wL3.cell? (a19.add 1) = some (.pointer p21) ∧
  ptrW p21 fun a22 =>
  ∃ (a24 : Option Addr) (l24 c24 : Nat), wL3.cell? (a22.add 0) = some (.slice a24 l24 c24) ∧
  (0 ≤ n4 ∧ n4 < (l24 : Int)) ∧
  ptrW a24 fun a26 =>
  ∃ n27_0 : Int, ∃ s27_1 : ByteArray, ∃ n27_2 : Int, ∃ n27_3 : Int, (wL3.cell? ((a26.add (n4.toNat * 4)).add 0) = some (.int .u32 n27_0) ∧ wL3.cell? ((a26.add (n4.toNat * 4)).add 1) = some (.string s27_1) ∧ wL3.cell? ((a26.add (n4.toNat * 4)).add 2) = some (.int .i64 n27_2) ∧ wL3.cell? ((a26.add (n4.toNat * 4)).add 3) = some (.int .i64 n27_3) ∧ True) ∧
  Calls P F.«revertref17_chunk» ⟨[.agg ⟨[.int .u32 n27_0, .string s27_1, .int .i64 n27_2, .int .i64 n27_3]⟩]⟩ wL3 fun e28 w28 => ∃ n28_0 : Int, ∃ n28_1 : Int, ∃ n28_2 : Int, ∃ n28_3 : Int, e28 = .returned (.agg ⟨[.int .u32 n28_0, .int .i64 n28_1, .int .i64 n28_2, .int .i64 n28_3]⟩) ∧
  letW (w28.alloc (.cells ⟨[(.int .u32 0), (.int .i64 0), (.int .i64 0), (.int .i64 0)]⟩ T.«revertref17_Chunk»)) fun u0 =>
  (∃ old, u0.cell? ((⟨w28.heap.size, 0, none⟩ : Addr).add 0) = some old) ∧ u0.frozen? ((⟨w28.heap.size, 0, none⟩ : Addr).add 0) = false ∧
  letW (u0.setCell ((⟨w28.heap.size, 0, none⟩ : Addr).add 0) (.int .u32 n28_0)) fun u0_1 =>
  (∃ old, u0_1.cell? ((⟨w28.heap.size, 0, none⟩ : Addr).add 1) = some old) ∧ u0_1.frozen? ((⟨w28.heap.size, 0, none⟩ : Addr).add 1) = false ∧
  letW (u0_1.setCell ((⟨w28.heap.size, 0, none⟩ : Addr).add 1) (.int .i64 n28_1)) fun u0_2 =>
  (∃ old, u0_2.cell? ((⟨w28.heap.size, 0, none⟩ : Addr).add 2) = some old) ∧ u0_2.frozen? ((⟨w28.heap.size, 0, none⟩ : Addr).add 2) = false ∧
  letW (u0_2.setCell ((⟨w28.heap.size, 0, none⟩ : Addr).add 2) (.int .i64 n28_2)) fun u0_3 =>
  (∃ old, u0_3.cell? ((⟨w28.heap.size, 0, none⟩ : Addr).add 3) = some old) ∧ u0_3.frozen? ((⟨w28.heap.size, 0, none⟩ : Addr).add 3) = false ∧
  letW (u0_3.setCell ((⟨w28.heap.size, 0, none⟩ : Addr).add 3) (.int .i64 n28_3)) fun u0_4 =>
  ∃ n30_0 : Int, ∃ n30_1 : Int, ∃ n30_2 : Int, ∃ n30_3 : Int, (u0_4.cell? ((⟨w28.heap.size, 0, none⟩ : Addr).add 0) = some (.int .u32 n30_0) ∧ u0_4.cell? ((⟨w28.heap.size, 0, none⟩ : Addr).add 1) = some (.int .i64 n30_1) ∧ u0_4.cell? ((⟨w28.heap.size, 0, none⟩ : Addr).add 2) = some (.int .i64 n30_2) ∧ u0_4.cell? ((⟨w28.heap.size, 0, none⟩ : Addr).add 3) = some (.int .i64 n30_3) ∧ True) ∧
  ∃ (a31 : Option Addr) (l31 c31 : Nat), ∃ w31, (Instr.buildSlice T.«l_revertref17_Chunk» 1 ⟨[(0, .agg ⟨[.int .u32 n30_0, .int .i64 n30_1, .int .i64 n30_2, .int .i64 n30_3]⟩)]⟩).run P u0_4 = .ok (.slice a31 l31 c31) w31 ∧
  ∃ (a32 : Option Addr) (l32 c32 : Nat), ∃ w32, (Builtin.append_ ⟨[T.«l_revertref17_Chunk», T.«l_revertref17_Chunk»]⟩ T.«l_revertref17_Chunk» ⟨[.slice a3 l3 c3, .slice a31 l31 c31]⟩).run P w31 = .ok (.slice a32 l32 c32) w32 ∧
  I3 ((a32, l32, c32), (IntKind.wrap .i64 (n4 + 1)), ()) w32 ∧ μ3 ((a32, l32, c32), (IntKind.wrap .i64 (n4 + 1)), ()) w32 < μ3 ((a3, l3, c3), n4, ()) wL3)
 (R (.returned (.slice a3 l3 c3)) wL3)
def plan_revertref17_Pool_Chunks : Plan := { loops := fun i => match i with | 48 => ([(3, .slice), (4, (.int .i64))], [3, 4, 5, 6, 7, 8, 9, 10, 11, 12, 13, 14, 15, 16, 17, 18, 19, 20, 21, 22, 23, 24, 25, 26, 27, 28, 29, 30, 31, 32]) | _ => ([], []), cuts := fun i => match i with | _ => none, head := fun i => match i with | _ => none, rng := fun i => match i with | _ => [] }
theorem ok_revertref17_Pool_Chunks {p0 : Option Addr} {R : Ending → World → Prop} {w : World} (h : V_revertref17_Pool_Chunks p0 R w) : Calls P F.«revertref17_Pool_Chunks» ⟨[.pointer p0]⟩ w R :=
  calls_of_vc tabOk bdOk mixed (fn := Tryz.f28) (c := bodyOf Tryz.f28) (pl := plan_revertref17_Pool_Chunks) Tryz.func28 (by kernel_rfl) (Nat.le_of_ble_eq_true (by kernel_rfl)) (by kernel_rfl)
    (Eq.mp (show V_revertref17_Pool_Chunks p0 R w = vcFun P Tb Bd plan_revertref17_Pool_Chunks (raw Tryz.f28.ntmps) Tryz.f28.results.toList (bodyOf Tryz.f28) [.pointer p0] R w by kernel_rfl) h)

def V_revertref17_Pool_Free (p0 : Option Addr) (R : Ending → World → Prop) (w : World) : Prop :=
 Calls P F.«revertref17_Pool_free» ⟨[.pointer p0]⟩ w fun e4 w4 => ∃ (a4 : Option Addr) (l4 c4 : Nat), e4 = .returned (.slice a4 l4 c4) ∧
 R (.returned (.int .i64 (l4 : Int))) w4
def plan_revertref17_Pool_Free : Plan := { loops := fun i => match i with | _ => ([], []), cuts := fun i => match i with | _ => none, head := fun i => match i with | _ => none, rng := fun i => match i with | _ => [] }
theorem ok_revertref17_Pool_Free {p0 : Option Addr} {R : Ending → World → Prop} {w : World} (h : V_revertref17_Pool_Free p0 R w) : Calls P F.«revertref17_Pool_Free» ⟨[.pointer p0]⟩ w R :=
  calls_of_vc tabOk bdOk mixed (fn := Tryz.f29) (c := bodyOf Tryz.f29) (pl := plan_revertref17_Pool_Free) Tryz.func29 (by kernel_rfl) (Nat.le_of_ble_eq_true (by kernel_rfl)) (by kernel_rfl)
    (Eq.mp (show V_revertref17_Pool_Free p0 R w = vcFun P Tb Bd plan_revertref17_Pool_Free (raw Tryz.f29.ntmps) Tryz.f29.results.toList (bodyOf Tryz.f29) [.pointer p0] R w by kernel_rfl) h)

def V_pool_Pool_Next (p0 : Option Addr) (R : Ending → World → Prop) (w : World) : Prop :=
 Calls P F.«pool_Pool_is» ⟨[.pointer p0]⟩ w fun e4 w4 => ∃ b4 : Bool, e4 = .returned (.bool b4) ∧
 bcase (!b4) (
  R (.returned (.int .u32 0)) w4)
 (ptrW p0 fun a7 =>
  ∃ p9 : Option Addr, w4.cell? (a7.add 1) = some (.pointer p9) ∧
  Calls P F.«dedup_Table_Next» ⟨[.pointer p9]⟩ w4 fun e10 w10 => ∃ n10 : Int, e10 = .returned (.int .u32 n10) ∧
  R (.returned (.int .u32 n10)) w10)
def plan_pool_Pool_Next : Plan := { loops := fun i => match i with | _ => ([], []), cuts := fun i => match i with | _ => none, head := fun i => match i with | _ => none, rng := fun i => match i with | _ => [] }
theorem ok_pool_Pool_Next {p0 : Option Addr} {R : Ending → World → Prop} {w : World} (h : V_pool_Pool_Next p0 R w) : Calls P F.«pool_Pool_Next» ⟨[.pointer p0]⟩ w R :=
  calls_of_vc tabOk bdOk mixed (fn := Tryz.f30) (c := bodyOf Tryz.f30) (pl := plan_pool_Pool_Next) Tryz.func30 (by kernel_rfl) (Nat.le_of_ble_eq_true (by kernel_rfl)) (by kernel_rfl)
    (Eq.mp (show V_pool_Pool_Next p0 R w = vcFun P Tb Bd plan_pool_Pool_Next (raw Tryz.f30.ntmps) Tryz.f30.results.toList (bodyOf Tryz.f30) [.pointer p0] R w by kernel_rfl) h)

def V_revertref17_Make (l0 : Option Addr) (R : Ending → World → Prop) (w : World) : Prop :=
 Calls P F.«revertref16_New» ⟨[]⟩ w fun e4 w4 => ∃ p4 : Option Addr, e4 = .returned (.pointer p4) ∧
 letW (w4.alloc (.cells ⟨[.pointer l0, .pointer p4]⟩ T.«revertref17_Pool»)) fun u0 =>
 R (.returned (.pointer (some ⟨w4.heap.size, 0, none⟩))) u0
def plan_revertref17_Make : Plan := { loops := fun i => match i with | _ => ([], []), cuts := fun i => match i with | _ => none, head := fun i => match i with | _ => none, rng := fun i => match i with | _ => [] }
theorem ok_revertref17_Make {l0 : Option Addr} {R : Ending → World → Prop} {w : World} (h : V_revertref17_Make l0 R w) : Calls P F.«revertref17_Make» ⟨[.pointer l0]⟩ w R :=
  calls_of_vc tabOk bdOk mixed (fn := Tryz.f32) (c := bodyOf Tryz.f32) (pl := plan_revertref17_Make) Tryz.func32 (by kernel_rfl) (Nat.le_of_ble_eq_true (by kernel_rfl)) (by kernel_rfl)
    (Eq.mp (show V_revertref17_Make l0 R w = vcFun P Tb Bd plan_revertref17_Make (raw Tryz.f32.ntmps) Tryz.f32.results.toList (bodyOf Tryz.f32) [.pointer l0] R w by kernel_rfl) h)

def V_pool_Plan_Chunks (q0 : Option Addr) (R : Ending → World → Prop) (w : World) : Prop :=
 Calls P F.«pool_Plan_may» ⟨[.pointer q0]⟩ w fun e11 w11 => ∃ n11 : Int, e11 = .returned (.int .i64 n11) ∧
 bcase (n11 != 0) (
  R (.returned (.slice none 0 0)) w11)
 (∀ wd3, Drew w11 wd3 →
  ptrW q0 fun a14 =>
  ∃ p16 : Option Addr, wd3.cell? (a14.add 0) = some (.pointer p16) ∧
  ptrW p16 fun a17 =>
  ∃ p19 : Option Addr, wd3.cell? (a17.add 1) = some (.pointer p19) ∧
  ptrW q0 fun a23 =>
  ∃ p25 : Option Addr, wd3.cell? (a23.add 1) = some (.pointer p25) ∧
  Calls P F.«dedup_Table_All» ⟨[.pointer p19]⟩ wd3 fun e20 w20 => ∃ v20 : Value, e20 = .returned (v20) ∧
  (∃ p25_2 : Option Addr, w20.cell? (a23.add 1) = some (.pointer p25_2) ∧
   (.pointer p25_2 : Value) = (.pointer p25)) ∧
  Calls P F.«slices_Collect_uint32» ⟨[v20]⟩ w20 fun e21 w21 => ∃ (a21 : Option Addr) (l21 c21 : Nat), e21 = .returned (.slice a21 l21 c21) ∧
  (∃ p25_1 : Option Addr, w21.cell? (a23.add 1) = some (.pointer p25_1) ∧
   (.pointer p25_1 : Value) = (.pointer p25)) ∧
  Calls P F.«dedup_Table_All» ⟨[.pointer p25]⟩ w21 fun e26 w26 => ∃ v26 : Value, e26 = .returned (v26) ∧
  Calls P F.«slices_AppendSeq_sl_uint32_uint32» ⟨[.slice a21 l21 c21, v26]⟩ w26 fun e27 w27 => ∃ (a27 : Option Addr) (l27 c27 : Nat), e27 = .returned (.slice a27 l27 c27) ∧
  Calls P F.«slices_Sort_sl_uint32_uint32» ⟨[.slice a27 l27 c27]⟩ w27 fun e29 w29 => e29 = .returned (.tuple ⟨[]⟩) ∧
  Calls P F.«slices_Compact_sl_uint32_uint32» ⟨[.slice a27 l27 c27]⟩ w29 fun e31 w31 => ∃ (a31 : Option Addr) (l31 c31 : Nat), e31 = .returned (.slice a31 l31 c31) ∧
  ∃ (I6 : Tup [(2, .slice), (33, (.int .i64))] → World → Prop) (μ6 : Tup [(2, .slice), (33, (.int .i64))] → World → Nat), I6 ((none, 0, 0), 0, ()) w31 ∧
  ∀ (junk6 : St) (a2 : Option Addr) (l2 c2 : Nat) (n33 : Int) (wL6 : World), I6 ((a2, l2, c2), n33, ()) wL6 →
  bcase (decide (n33 < (l31 : Int))) (
   (0 ≤ n33 ∧ n33 < (l31 : Int)) ∧
   ptrW a31 fun a35 =>
   ∃ n36 : Int, wL6.cell? (a35.add (n33.toNat * 1)) = some (.int .u32 n36) ∧
   ptrW q0 fun a39 =>
   ∃ p41 : Option Addr, wL6.cell? (a39.add 0) = some (.pointer p41) ∧
   ptrW p41 fun a42 =>
   ∃ p44 : Option Addr, wL6.cell? (a42.add 1) = some (.pointer p44) ∧
   Calls P F.«pool_chunk» ⟨[.pointer p44, .int .u32 n36]⟩ wL6 fun e46 w46 => ∃ n46_a_0 : Int, ∃ n46_a_1 : Int, ∃ n46_a_2 : Int, ∃ n46_a_3 : Int, ∃ b46_b : Bool, e46 = .returned (.tuple ⟨[.agg ⟨[.int .u32 n46_a_0, .int .i64 n46_a_1, .int .i64 n46_a_2, .int .i64 n46_a_3]⟩, .bool b46_b]⟩) ∧
   letW (w46.alloc (.cells ⟨[(.int .u32 0), (.int .i64 0), (.int .i64 0), (.int .i64 0)]⟩ T.«pool_Chunk»)) fun u0 =>
   (∃ old, u0.cell? ((⟨w46.heap.size, 0, none⟩ : Addr).add 0) = some old) ∧ u0.frozen? ((⟨w46.heap.size, 0, none⟩ : Addr).add 0) = false ∧
   letW (u0.setCell ((⟨w46.heap.size, 0, none⟩ : Addr).add 0) (.int .u32 n46_a_0)) fun u0_1 =>
   (∃ old, u0_1.cell? ((⟨w46.heap.size, 0, none⟩ : Addr).add 1) = some old) ∧ u0_1.frozen? ((⟨w46.heap.size, 0, none⟩ : Addr).add 1) = false ∧
   letW (u0_1.setCell ((⟨w46.heap.size, 0, none⟩ : Addr).add 1) (.int .i64 n46_a_1)) fun u0_2 =>
   (∃ old, u0_2.cell? ((⟨w46.heap.size, 0, none⟩ : Addr).add 2) = some old) ∧ u0_2.frozen? ((⟨w46.heap.size, 0, none⟩ : Addr).add 2) = false ∧
   letW (u0_2.setCell ((⟨w46.heap.size, 0, none⟩ : Addr).add 2) (.int .i64 n46_a_2)) fun u0_3 =>
   (∃ old, u0_3.cell? ((⟨w46.heap.size, 0, none⟩ : Addr).add 3) = some old) ∧ u0_3.frozen? ((⟨w46.heap.size, 0, none⟩ : Addr).add 3) = false ∧
   letW (u0_3.setCell ((⟨w46.heap.size, 0, none⟩ : Addr).add 3) (.int .i64 n46_a_3)) fun u0_4 =>
   ptrW q0 fun a51 =>
   ∃ p53 : Option Addr, u0_4.cell? (a51.add 1) = some (.pointer p53) ∧
   Calls P F.«pool_chunk» ⟨[.pointer p53, .int .u32 n36]⟩ u0_4 fun e55 w55 => ∃ n55_a_0 : Int, ∃ n55_a_1 : Int, ∃ n55_a_2 : Int, ∃ n55_a_3 : Int, ∃ b55_b : Bool, e55 = .returned (.tuple ⟨[.agg ⟨[.int .u32 n55_a_0, .int .i64 n55_a_1, .int .i64 n55_a_2, .int .i64 n55_a_3]⟩, .bool b55_b]⟩) ∧
   letW (w55.alloc (.cells ⟨[(.int .u32 0), (.int .i64 0), (.int .i64 0), (.int .i64 0)]⟩ T.«pool_Chunk»)) fun u0_5 =>
   (∃ old, u0_5.cell? ((⟨w55.heap.size, 0, none⟩ : Addr).add 0) = some old) ∧ u0_5.frozen? ((⟨w55.heap.size, 0, none⟩ : Addr).add 0) = false ∧
   letW (u0_5.setCell ((⟨w55.heap.size, 0, none⟩ : Addr).add 0) (.int .u32 n55_a_0)) fun u0_6 =>
   (∃ old, u0_6.cell? ((⟨w55.heap.size, 0, none⟩ : Addr).add 1) = some old) ∧ u0_6.frozen? ((⟨w55.heap.size, 0, none⟩ : Addr).add 1) = false ∧
   letW (u0_6.setCell ((⟨w55.heap.size, 0, none⟩ : Addr).add 1) (.int .i64 n55_a_1)) fun u0_7 =>
   (∃ old, u0_7.cell? ((⟨w55.heap.size, 0, none⟩ : Addr).add 2) = some old) ∧ u0_7.frozen? ((⟨w55.heap.size, 0, none⟩ : Addr).add 2) = false ∧
   letW (u0_7.setCell ((⟨w55.heap.size, 0, none⟩ : Addr).add 2) (.int .i64 n55_a_2)) fun u0_8 =>
   (∃ old, u0_8.cell? ((⟨w55.heap.size, 0, none⟩ : Addr).add 3) = some old) ∧ u0_8.frozen? ((⟨w55.heap.size, 0, none⟩ : Addr).add 3) = false ∧
   letW (u0_8.setCell ((⟨w55.heap.size, 0, none⟩ : Addr).add 3) (.int .i64 n55_a_3)) fun u0_9 =>
   ∃ J11 : Tup [(58, .bool)] → World → Prop, (bcase b55_b (
     bcase (!b46_b) (
      J11 (true, ()) u0_9)
     (∃ n64_0 : Int, ∃ n64_1 : Int, ∃ n64_2 : Int, ∃ n64_3 : Int, (u0_9.cell? ((⟨w55.heap.size, 0, none⟩ : Addr).add 0) = some (.int .u32 n64_0) ∧ u0_9.cell? ((⟨w55.heap.size, 0, none⟩ : Addr).add 1) = some (.int .i64 n64_1) ∧ u0_9.cell? ((⟨w55.heap.size, 0, none⟩ : Addr).add 2) = some (.int .i64 n64_2) ∧ u0_9.cell? ((⟨w55.heap.size, 0, none⟩ : Addr).add 3) = some (.int .i64 n64_3) ∧ True) ∧
      ∃ n65_0 : Int, ∃ n65_1 : Int, ∃ n65_2 : Int, ∃ n65_3 : Int, (u0_9.cell? ((⟨w46.heap.size, 0, none⟩ : Addr).add 0) = some (.int .u32 n65_0) ∧ u0_9.cell? ((⟨w46.heap.size, 0, none⟩ : Addr).add 1) = some (.int .i64 n65_1) ∧ u0_9.cell? ((⟨w46.heap.size, 0, none⟩ : Addr).add 2) = some (.int .i64 n65_2) ∧ u0_9.cell? ((⟨w46.heap.size, 0, none⟩ : Addr).add 3) = some (.int .i64 n65_3) ∧ True) ∧
      ∃ b66 : Bool, eqlRun P .neq T.«pool_Chunk» (.agg ⟨[.int .u32 n64_0, .int .i64 n64_1, .int .i64 n64_2, .int .i64 n64_3]⟩) (.agg ⟨[.int .u32 n65_0, .int .i64 n65_1, .int .i64 n65_2, .int .i64 n65_3]⟩) u0_9 b66 ∧
      J11 (b66, ()) u0_9))
    (J11 (false, ()) u0_9)) ∧
   ∀ (junk11 : St) (b58 : Bool) (wJ11 : World), J11 (b58, ()) wJ11 →
   bcase b58 (
    ∃ n70_0 : Int, ∃ n70_1 : Int, ∃ n70_2 : Int, ∃ n70_3 : Int, (wJ11.cell? ((⟨w55.heap.size, 0, none⟩ : Addr).add 0) = some (.int .u32 n70_0) ∧ wJ11.cell? ((⟨w55.heap.size, 0, none⟩ : Addr).add 1) = some (.int .i64 n70_1) ∧ wJ11.cell? ((⟨w55.heap.size, 0, none⟩ : Addr).add 2) = some (.int .i64 n70_2) ∧ wJ11.cell? ((⟨w55.heap.size, 0, none⟩ : Addr).add 3) = some (.int .i64 n70_3) ∧ True) ∧
    ∃ (a71 : Option Addr) (l71 c71 : Nat), ∃ w71, (Instr.buildSlice T.«l_pool_Chunk» 1 ⟨[(0, .agg ⟨[.int .u32 n70_0, .int .i64 n70_1, .int .i64 n70_2, .int .i64 n70_3]⟩)]⟩).run P wJ11 = .ok (.slice a71 l71 c71) w71 ∧
    ∃ (a72 : Option Addr) (l72 c72 : Nat), ∃ w72, (Builtin.append_ ⟨[T.«l_pool_Chunk», T.«l_pool_Chunk»]⟩ T.«l_pool_Chunk» ⟨[.slice a2 l2 c2, .slice a71 l71 c71]⟩).run P w71 = .ok (.slice a72 l72 c72) w72 ∧
    I6 ((a72, l72, c72), (IntKind.wrap .i64 (n33 + 1)), ()) w72 ∧ μ6 ((a72, l72, c72), (IntKind.wrap .i64 (n33 + 1)), ()) w72 < μ6 ((a2, l2, c2), n33, ()) wL6)
   (bcase b46_b (
     bcase (!b55_b) (
      ∃ (a82 : Option Addr) (l82 c82 : Nat), ∃ w82, (Instr.buildSlice T.«l_pool_Chunk» 1 ⟨[(0, .agg ⟨[.int .u32 n36, .int .i64 0, .int .i64 0, .int .i64 0]⟩)]⟩).run P wJ11 = .ok (.slice a82 l82 c82) w82 ∧
      ∃ (a83 : Option Addr) (l83 c83 : Nat), ∃ w83, (Builtin.append_ ⟨[T.«l_pool_Chunk», T.«l_pool_Chunk»]⟩ T.«l_pool_Chunk» ⟨[.slice a2 l2 c2, .slice a82 l82 c82]⟩).run P w82 = .ok (.slice a83 l83 c83) w83 ∧
      I6 ((a83, l83, c83), (IntKind.wrap .i64 (n33 + 1)), ()) w83 ∧ μ6 ((a83, l83, c83), (IntKind.wrap .i64 (n33 + 1)), ()) w83 < μ6 ((a2, l2, c2), n33, ()) wL6)
     (I6 ((a2, l2, c2), (IntKind.wrap .i64 (n33 + 1)), ()) wJ11 ∧ μ6 ((a2, l2, c2), (IntKind.wrap .i64 (n33 + 1)), ()) wJ11 < μ6 ((a2, l2, c2), n33, ()) wL6))
    (I6 ((a2, l2, c2), (IntKind.wrap .i64 (n33 + 1)), ()) wJ11 ∧ μ6 ((a2, l2, c2), (IntKind.wrap .i64 (n33 + 1)), ()) wJ11 < μ6 ((a2, l2, c2), n33, ()) wL6)))
  (R (.returned (.slice a2 l2 c2)) wL6))
def plan_pool_Plan_Chunks : Plan := { loops := fun i => match i with | 96 => ([(2, .slice), (33, (.int .i64))], [2, 5, 6, 7, 8, 9, 33, 34, 35, 36, 37, 38, 39, 40, 41, 42, 43, 44, 45, 46, 47, 48, 49, 50, 51, 52, 53, 54, 55, 56, 57, 58, 59, 60, 61, 62, 63, 64, 65, 66, 67, 68, 69, 70, 71, 72, 73, 74, 75, 76, 77, 78, 79, 80, 81, 82, 83, 84]) | _ => ([], []), cuts := fun i => match i with | 11 => some ([(58, .bool)], [58, 59, 60, 61, 62, 63, 64, 65, 66, 67, 68]) | _ => none, head := fun i => match i with | _ => none, rng := fun i => match i with | _ => [], stg := fun i => match i with | 3 => some ((.q 0 (.q 1 (.q 2 (.q 3 (.q 4 (.q 5 (.q 6 (.q 9 (.q 10 (.q 11 (.q 12 (.w 7 [12] (.w 8 [12] (.w 13 [] (.w 14 [] (.q 15 .done)))))))))))))))), [0, 1, 3, 7, 15, 31, 63, 127, 255, 0, 512, 1536, 3584, 8191, 16383, 32767]) | _ => none }
theorem ok_pool_Plan_Chunks {q0 : Option Addr} {R : Ending → World → Prop} {w : World} (h : V_pool_Plan_Chunks q0 R w) : Calls P F.«pool_Plan_Chunks» ⟨[.pointer q0]⟩ w R :=
  calls_of_vc tabOk bdOk mixed (fn := Tryz.f35) (c := bodyOf Tryz.f35) (pl := plan_pool_Plan_Chunks) Tryz.func35 (by kernel_rfl) (Nat.le_of_ble_eq_true (by kernel_rfl)) (by kernel_rfl)
    (Eq.mp (show V_pool_Plan_Chunks q0 R w = vcFun P Tb Bd plan_pool_Plan_Chunks (raw Tryz.f35.ntmps) Tryz.f35.results.toList (bodyOf Tryz.f35) [.pointer q0] R w by kernel_rfl) h)

end Go.Proofs.YtgepmlgkeljelaaGreat.Vc
