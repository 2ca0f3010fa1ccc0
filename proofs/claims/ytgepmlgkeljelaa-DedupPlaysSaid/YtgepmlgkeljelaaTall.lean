/- Conditions of functions, and that they are enough. Written by vcgen.py. -/
import Derived.Test.YtgepmlgkeljelaaTab
set_option maxRecDepth 100000
namespace Go.Proofs.Ytgepmlgkeljelaa.Vc
open Go
def V_revertlaw16_DedupPlays (acts0 : Option Addr) (acts0l acts0c : Nat) (R : Ending → World → Prop) (w : World) : Prop :=
 Calls P F.«revertlaw16_few» ⟨[.slice acts0 acts0l acts0c]⟩ w fun e9 w9 => ∃ b9 : Bool, e9 = .returned (.bool b9) ∧
 bcase (!b9) (
  Calls P F.«revertlaw16_works» ⟨[]⟩ w9 fun e11 w11 => ∃ b11 : Bool, e11 = .returned (.bool b11) ∧
  R (.returned (.bool b11)) w11)
 (Calls P F.«dedup_New» ⟨[]⟩ w9 fun e12 w12 => ∃ p12 : Option Addr, e12 = .returned (.pointer p12) ∧
  Calls P F.«revertref16_New» ⟨[]⟩ w12 fun e13 w13 => ∃ p13 : Option Addr, e13 = .returned (.pointer p13) ∧
  ∃ (I6 : Tup [(3, .ptr), (4, .ptr), (5, (.int .i64))] → World → Prop) (μ6 : Tup [(3, .ptr), (4, .ptr), (5, (.int .i64))] → World → Nat), I6 (p12, p13, 0, ()) w13 ∧
  ∀ (junk6 : St) (p3 : Option Addr) (p4 : Option Addr) (n5 : Int) (wL6 : World), I6 (p3, p4, n5, ()) wL6 →
  bcase (decide (n5 < (acts0l : Int))) (
   (0 ≤ n5 ∧ n5 < (acts0l : Int)) ∧
   ptrW acts0 fun a22 =>
   ∃ n23_0 : Int, ∃ n23_1 : Int, ∃ s23_2 : ByteArray, ∃ n23_3 : Int, ∃ n23_4 : Int, ∃ n23_5 : Int, ∃ s23_6 : ByteArray, (wL6.cell? ((a22.add (n5.toNat * 7)).add 0) = some (.int .u8 n23_0) ∧ wL6.cell? ((a22.add (n5.toNat * 7)).add 1) = some (.int .u32 n23_1) ∧ wL6.cell? ((a22.add (n5.toNat * 7)).add 2) = some (.string s23_2) ∧ wL6.cell? ((a22.add (n5.toNat * 7)).add 3) = some (.int .i64 n23_3) ∧ wL6.cell? ((a22.add (n5.toNat * 7)).add 4) = some (.int .i64 n23_4) ∧ wL6.cell? ((a22.add (n5.toNat * 7)).add 5) = some (.int .u32 n23_5) ∧ wL6.cell? ((a22.add (n5.toNat * 7)).add 6) = some (.string s23_6) ∧ True) ∧
   letW (wL6.alloc (.cells ⟨[(.int .u8 0), (.int .u32 0), (.string (bs [])), (.int .i64 0), (.int .i64 0), (.int .u32 0), (.string (bs []))]⟩ T.«revertlaw16_Act»)) fun u0 =>
   (∃ old, u0.cell? ((⟨wL6.heap.size, 0, none⟩ : Addr).add 0) = some old) ∧ u0.frozen? ((⟨wL6.heap.size, 0, none⟩ : Addr).add 0) = false ∧
   letW (u0.setCell ((⟨wL6.heap.size, 0, none⟩ : Addr).add 0) (.int .u8 n23_0)) fun u0_1 =>
   (∃ old, u0_1.cell? ((⟨wL6.heap.size, 0, none⟩ : Addr).add 1) = some old) ∧ u0_1.frozen? ((⟨wL6.heap.size, 0, none⟩ : Addr).add 1) = false ∧
   letW (u0_1.setCell ((⟨wL6.heap.size, 0, none⟩ : Addr).add 1) (.int .u32 n23_1)) fun u0_2 =>
   (∃ old, u0_2.cell? ((⟨wL6.heap.size, 0, none⟩ : Addr).add 2) = some old) ∧ u0_2.frozen? ((⟨wL6.heap.size, 0, none⟩ : Addr).add 2) = false ∧
   letW (u0_2.setCell ((⟨wL6.heap.size, 0, none⟩ : Addr).add 2) (.string s23_2)) fun u0_3 =>
   (∃ old, u0_3.cell? ((⟨wL6.heap.size, 0, none⟩ : Addr).add 3) = some old) ∧ u0_3.frozen? ((⟨wL6.heap.size, 0, none⟩ : Addr).add 3) = false ∧
   letW (u0_3.setCell ((⟨wL6.heap.size, 0, none⟩ : Addr).add 3) (.int .i64 n23_3)) fun u0_4 =>
   (∃ old, u0_4.cell? ((⟨wL6.heap.size, 0, none⟩ : Addr).add 4) = some old) ∧ u0_4.frozen? ((⟨wL6.heap.size, 0, none⟩ : Addr).add 4) = false ∧
   letW (u0_4.setCell ((⟨wL6.heap.size, 0, none⟩ : Addr).add 4) (.int .i64 n23_4)) fun u0_5 =>
   (∃ old, u0_5.cell? ((⟨wL6.heap.size, 0, none⟩ : Addr).add 5) = some old) ∧ u0_5.frozen? ((⟨wL6.heap.size, 0, none⟩ : Addr).add 5) = false ∧
   letW (u0_5.setCell ((⟨wL6.heap.size, 0, none⟩ : Addr).add 5) (.int .u32 n23_5)) fun u0_6 =>
   (∃ old, u0_6.cell? ((⟨wL6.heap.size, 0, none⟩ : Addr).add 6) = some old) ∧ u0_6.frozen? ((⟨wL6.heap.size, 0, none⟩ : Addr).add 6) = false ∧
   letW (u0_6.setCell ((⟨wL6.heap.size, 0, none⟩ : Addr).add 6) (.string s23_6)) fun u0_7 =>
   ∃ J16 : Tup [(3, .ptr), (4, .ptr)] → World → Prop, (∃ n25 : Int, u0_7.cell? ((⟨wL6.heap.size, 0, none⟩ : Addr).add 0) = some (.int .u8 n25) ∧
    (9 : Int) ≠ 0 ∧ bcase ((Int.tmod n25 9) == 8) (
     Calls P F.«dedup_Table_Copy» ⟨[.pointer p3]⟩ u0_7 fun e30 w30 => ∃ p30 : Option Addr, e30 = .returned (.pointer p30) ∧
     Calls P F.«revertref16_Table_Copy» ⟨[.pointer p4]⟩ w30 fun e32 w32 => ∃ p32 : Option Addr, e32 = .returned (.pointer p32) ∧
     Calls P F.«dedup_Table_Add» ⟨[.pointer p3, .string (bs [115, 112, 111, 105, 108, 116]), .int .i64 1]⟩ w32 fun e34 w34 => ∃ n34_a : Int, ∃ n34_b : Int, e34 = .returned (.tuple ⟨[.int .u32 n34_a, .int .i64 n34_b]⟩) ∧
     ∃ n37 : Int, w34.cell? ((⟨wL6.heap.size, 0, none⟩ : Addr).add 1) = some (.int .u32 n37) ∧
     Calls P F.«dedup_Table_Release» ⟨[.pointer p3, .int .u32 n37]⟩ w34 fun e38 w38 => ∃ b38_a : Bool, ∃ n38_b : Int, e38 = .returned (.tuple ⟨[.bool b38_a, .int .i64 n38_b]⟩) ∧
     Calls P F.«dedup_Table_Skip» ⟨[.pointer p3, .int .u32 1048576]⟩ w38 fun e40 w40 => e40 = .returned (.tuple ⟨[]⟩) ∧
     J16 (p30, p32, ()) w40)
    (J16 (p3, p4, ()) u0_7)) ∧
   ∀ (junk16 : St) (p3_1 : Option Addr) (p4_1 : Option Addr) (wJ16 : World), J16 (p3_1, p4_1, ()) wJ16 →
   ∃ n43_0 : Int, ∃ n43_1 : Int, ∃ s43_2 : ByteArray, ∃ n43_3 : Int, ∃ n43_4 : Int, ∃ n43_5 : Int, ∃ s43_6 : ByteArray, (wJ16.cell? ((⟨wL6.heap.size, 0, none⟩ : Addr).add 0) = some (.int .u8 n43_0) ∧ wJ16.cell? ((⟨wL6.heap.size, 0, none⟩ : Addr).add 1) = some (.int .u32 n43_1) ∧ wJ16.cell? ((⟨wL6.heap.size, 0, none⟩ : Addr).add 2) = some (.string s43_2) ∧ wJ16.cell? ((⟨wL6.heap.size, 0, none⟩ : Addr).add 3) = some (.int .i64 n43_3) ∧ wJ16.cell? ((⟨wL6.heap.size, 0, none⟩ : Addr).add 4) = some (.int .i64 n43_4) ∧ wJ16.cell? ((⟨wL6.heap.size, 0, none⟩ : Addr).add 5) = some (.int .u32 n43_5) ∧ wJ16.cell? ((⟨wL6.heap.size, 0, none⟩ : Addr).add 6) = some (.string s43_6) ∧ True) ∧
   Calls P F.«revertlaw16_one» ⟨[.pointer p3_1, .pointer p4_1, .agg ⟨[.int .u8 n43_0, .int .u32 n43_1, .string s43_2, .int .i64 n43_3, .int .i64 n43_4, .int .u32 n43_5, .string s43_6]⟩]⟩ wJ16 fun e44 w44 => ∃ b44 : Bool, e44 = .returned (.bool b44) ∧
   bcase (!b44) (
    R (.returned (.bool false)) w44)
   (∃ n50 : Int, w44.cell? ((⟨wL6.heap.size, 0, none⟩ : Addr).add 5) = some (.int .u32 n50) ∧
    ∃ s52 : ByteArray, w44.cell? ((⟨wL6.heap.size, 0, none⟩ : Addr).add 6) = some (.string s52) ∧
    Calls P F.«revertlaw16_alike» ⟨[.pointer p3_1, .pointer p4_1, .int .u32 n50, .string s52]⟩ w44 fun e53 w53 => ∃ b53 : Bool, e53 = .returned (.bool b53) ∧
    bcase (!b53) (
     R (.returned (.bool false)) w53)
    (∃ n60 : Int, w53.cell? ((⟨wL6.heap.size, 0, none⟩ : Addr).add 1) = some (.int .u32 n60) ∧
     ∃ s62 : ByteArray, w53.cell? ((⟨wL6.heap.size, 0, none⟩ : Addr).add 2) = some (.string s62) ∧
     Calls P F.«revertlaw16_alike» ⟨[.pointer p3_1, .pointer p4_1, .int .u32 n60, .string s62]⟩ w53 fun e63 w63 => ∃ b63 : Bool, e63 = .returned (.bool b63) ∧
     bcase (!b63) (
      R (.returned (.bool false)) w63)
     (Calls P F.«revertlaw16_listed» ⟨[.pointer p3_1, .pointer p4_1]⟩ w63 fun e69 w69 => ∃ b69 : Bool, e69 = .returned (.bool b69) ∧
      bcase (!b69) (
       R (.returned (.bool false)) w69)
      (I6 (p3_1, p4_1, (IntKind.wrap .i64 (n5 + 1)), ()) w69 ∧ μ6 (p3_1, p4_1, (IntKind.wrap .i64 (n5 + 1)), ()) w69 < μ6 (p3, p4, n5, ()) wL6)))))
  (Calls P F.«revertlaw16_works» ⟨[]⟩ wL6 fun e72 w72 => ∃ b72 : Bool, e72 = .returned (.bool b72) ∧
   R (.returned (.bool b72)) w72))
def plan_revertlaw16_DedupPlays : Plan := { loops := fun i => match i with | 96 => ([(3, .ptr), (4, .ptr), (5, (.int .i64))], [2, 3, 4, 5, 6, 7, 14, 15, 16, 17, 18, 19, 20, 21, 22, 23, 24, 25, 26, 27, 28, 29, 30, 31, 32, 33, 34, 35, 36, 37, 38, 39, 40, 41, 42, 43, 44, 45, 46, 47, 48, 49, 50, 51, 52, 53, 54, 55, 56, 57, 58, 59, 60, 61, 62, 63, 64, 65, 66, 67, 68, 69, 70, 71]) | _ => ([], []), cuts := fun i => match i with | 16 => some ([(3, .ptr), (4, .ptr)], [3, 4, 7, 24, 25, 26, 27, 28, 29, 30, 31, 32, 33, 34, 35, 36, 37, 38, 39, 40]) | _ => none, head := fun i => match i with | _ => none, rng := fun i => match i with | _ => [] }
theorem ok_revertlaw16_DedupPlays {acts0 : Option Addr} {acts0l acts0c : Nat} {R : Ending → World → Prop} {w : World} (h : V_revertlaw16_DedupPlays acts0 acts0l acts0c R w) : Calls P F.«revertlaw16_DedupPlays» ⟨[.slice acts0 acts0l acts0c]⟩ w R :=
  calls_of_vc tabOk bdOk mixed (fn := Try.f3) (c := bodyOf Try.f3) (pl := plan_revertlaw16_DedupPlays) Try.func3 (by kernel_rfl) (Nat.le_of_ble_eq_true (by kernel_rfl)) (by kernel_rfl)
    (Eq.mp (show V_revertlaw16_DedupPlays acts0 acts0l acts0c R w = vcFun P Tb Bd plan_revertlaw16_DedupPlays (raw Try.f3.ntmps) Try.f3.results.toList (bodyOf Try.f3) [.slice acts0 acts0l acts0c] R w by kernel_rfl) h)

def V_revertlaw16_few (l0 : Option Addr) (l0l l0c : Nat) (R : Ending → World → Prop) (w : World) : Prop :=
 ∃ (I2 : Tup [(3, (.int .i64))] → World → Prop) (μ2 : Tup [(3, (.int .i64))] → World → Nat), I2 (0, ()) w ∧
 ∀ (junk2 : St) (n3 : Int) (wL2 : World), I2 (n3, ()) wL2 →
 bcase (decide (n3 < (l0l : Int))) (
  bcase (decide (n3 < 70)) (
   (0 ≤ n3 ∧ n3 < (l0l : Int)) ∧
   ptrW l0 fun a16 =>
   ∃ s18 : ByteArray, wL2.cell? ((a16.add (n3.toNat * 7)).add 2) = some (.string s18) ∧
   bcase (decide ((s18.size : Int) > 100)) (
    R (.returned (.bool false)) wL2)
   ((0 ≤ n3 ∧ n3 < (l0l : Int)) ∧
    ptrW l0 fun a24 =>
    ∃ s26 : ByteArray, wL2.cell? ((a24.add (n3.toNat * 7)).add 6) = some (.string s26) ∧
    bcase (decide ((s26.size : Int) > 100)) (
     R (.returned (.bool false)) wL2)
    (I2 ((IntKind.wrap .i64 (n3 + 1)), ()) wL2 ∧ μ2 ((IntKind.wrap .i64 (n3 + 1)), ()) wL2 < μ2 (n3, ()) wL2)))
  (R (.returned (.bool (decide ((l0l : Int) ≤ 60)))) wL2))
 (R (.returned (.bool (decide ((l0l : Int) ≤ 60)))) wL2)
def plan_revertlaw16_few : Plan := { loops := fun i => match i with | 32 => ([(3, (.int .i64))], [2, 3, 4, 5, 6, 7, 8, 9, 10, 11, 12, 13, 14, 15, 16, 17, 18, 19, 20, 21, 22, 23, 24, 25, 26, 27, 28, 29]) | _ => ([], []), cuts := fun i => match i with | _ => none, head := fun i => match i with | _ => none, rng := fun i => match i with | _ => [] }
theorem ok_revertlaw16_few {l0 : Option Addr} {l0l l0c : Nat} {R : Ending → World → Prop} {w : World} (h : V_revertlaw16_few l0 l0l l0c R w) : Calls P F.«revertlaw16_few» ⟨[.slice l0 l0l l0c]⟩ w R :=
  calls_of_vc tabOk bdOk mixed (fn := Try.f4) (c := bodyOf Try.f4) (pl := plan_revertlaw16_few) Try.func4 (by kernel_rfl) (Nat.le_of_ble_eq_true (by kernel_rfl)) (by kernel_rfl)
    (Eq.mp (show V_revertlaw16_few l0 l0l l0c R w = vcFun P Tb Bd plan_revertlaw16_few (raw Try.f4.ntmps) Try.f4.results.toList (bodyOf Try.f4) [.slice l0 l0l l0c] R w by kernel_rfl) h)

def V_revertlaw16_works  (R : Ending → World → Prop) (w : World) : Prop :=
 Calls P F.«dedup_New» ⟨[]⟩ w fun e2 w2 => ∃ p2 : Option Addr, e2 = .returned (.pointer p2) ∧
 Calls P F.«revertlaw16_adds» ⟨[.pointer p2, .string (bs [97, 98]), .int .i64 7, .int .u32 1]⟩ w2 fun e4 w4 => ∃ b4 : Bool, e4 = .returned (.bool b4) ∧
 bcase b4 (
  Calls P F.«revertlaw16_adds» ⟨[.pointer p2, .string (bs [99, 100]), .int .i64 8, .int .u32 2]⟩ w4 fun e7 w7 => ∃ b7 : Bool, e7 = .returned (.bool b7) ∧
  bcase b7 (
   Calls P F.«revertlaw16_refused» ⟨[.pointer p2, .string (bs [97, 98]), .int .i64 6]⟩ w7 fun e11 w11 => ∃ b11 : Bool, e11 = .returned (.bool b11) ∧
   bcase b11 (
    Calls P F.«revertlaw16_finds» ⟨[.pointer p2, .string (bs [97, 98]), .int .u32 1]⟩ w11 fun e15 w15 => ∃ b15 : Bool, e15 = .returned (.bool b15) ∧
    bcase b15 (
     Calls P F.«revertlaw16_finds» ⟨[.pointer p2, .string (bs [120]), .int .u32 0]⟩ w15 fun e19 w19 => ∃ b19 : Bool, e19 = .returned (.bool b19) ∧
     bcase b19 (
      Calls P F.«dedup_Table_Count» ⟨[.pointer p2]⟩ w19 fun e23 w23 => ∃ n23 : Int, e23 = .returned (.int .i64 n23) ∧
      R (.returned (.bool (n23 == 2))) w23)
     (R (.returned (.bool false)) w19))
    (R (.returned (.bool false)) w15))
   (R (.returned (.bool false)) w11))
  (R (.returned (.bool false)) w7))
 (R (.returned (.bool false)) w4)
def plan_revertlaw16_works : Plan := { loops := fun i => match i with | _ => ([], []), cuts := fun i => match i with | _ => none, head := fun i => match i with | _ => none, rng := fun i => match i with | _ => [] }
theorem ok_revertlaw16_works  {R : Ending → World → Prop} {w : World} (h : V_revertlaw16_works  R w) : Calls P F.«revertlaw16_works» ⟨[]⟩ w R :=
  calls_of_vc tabOk bdOk mixed (fn := Try.f5) (c := bodyOf Try.f5) (pl := plan_revertlaw16_works) Try.func5 (by kernel_rfl) (Nat.le_of_ble_eq_true (by kernel_rfl)) (by kernel_rfl)
    (Eq.mp (show V_revertlaw16_works  R w = vcFun P Tb Bd plan_revertlaw16_works (raw Try.f5.ntmps) Try.f5.results.toList (bodyOf Try.f5) [] R w by kernel_rfl) h)

def V_dedup_New  (R : Ending → World → Prop) (w : World) : Prop :=
 letW (w.alloc (.map #[] 0)) fun u0 =>
 Calls P F.«hash_New» ⟨[]⟩ u0 fun e2 w2 => ∃ p2 : Option Addr, e2 = .returned (.pointer p2) ∧
 letW (w2.alloc (.cells ⟨[.map (some w.heap.size), .pointer p2, .int .u32 1]⟩ T.«dedup_Table»)) fun u0_1 =>
 R (.returned (.pointer (some ⟨w2.heap.size, 0, none⟩))) u0_1
def plan_dedup_New : Plan := { loops := fun i => match i with | _ => ([], []), cuts := fun i => match i with | _ => none, head := fun i => match i with | _ => none, rng := fun i => match i with | _ => [] }
theorem ok_dedup_New  {R : Ending → World → Prop} {w : World} (h : V_dedup_New  R w) : Calls P F.«dedup_New» ⟨[]⟩ w R :=
  calls_of_vc tabOk bdOk mixed (fn := Try.f6) (c := bodyOf Try.f6) (pl := plan_dedup_New) Try.func6 (by kernel_rfl) (Nat.le_of_ble_eq_true (by kernel_rfl)) (by kernel_rfl)
    (Eq.mp (show V_dedup_New  R w = vcFun P Tb Bd plan_dedup_New (raw Try.f6.ntmps) Try.f6.results.toList (bodyOf Try.f6) [] R w by kernel_rfl) h)

def V_revertref16_New  (R : Ending → World → Prop) (w : World) : Prop :=
 letW (w.alloc (.cells ⟨[.slice none 0 0, .int .u32 1]⟩ T.«revertref16_Table»)) fun u0 =>
 R (.returned (.pointer (some ⟨w.heap.size, 0, none⟩))) u0
def plan_revertref16_New : Plan := { loops := fun i => match i with | _ => ([], []), cuts := fun i => match i with | _ => none, head := fun i => match i with | _ => none, rng := fun i => match i with | _ => [] }
theorem ok_revertref16_New  {R : Ending → World → Prop} {w : World} (h : V_revertref16_New  R w) : Calls P F.«revertref16_New» ⟨[]⟩ w R :=
  calls_of_vc tabOk bdOk mixed (fn := Try.f7) (c := bodyOf Try.f7) (pl := plan_revertref16_New) Try.func7 (by kernel_rfl) (Nat.le_of_ble_eq_true (by kernel_rfl)) (by kernel_rfl)
    (Eq.mp (show V_revertref16_New  R w = vcFun P Tb Bd plan_revertref16_New (raw Try.f7.ntmps) Try.f7.results.toList (bodyOf Try.f7) [] R w by kernel_rfl) h)

def V_dedup_Table_Copy (t0 : Option Addr) (R : Ending → World → Prop) (w : World) : Prop :=
 letW (w.alloc (.cells ⟨[.pointer t0]⟩ T.«p_dedup_Table»)) fun u0 =>
 ∃ p5 : Option Addr, u0.cell? ⟨w.heap.size, 0, none⟩ = some (.pointer p5) ∧
 Calls P F.«dedup_Table_is» ⟨[.pointer p5]⟩ u0 fun e6 w6 => ∃ b6 : Bool, e6 = .returned (.bool b6) ∧
 bcase (!b6) (
  R (.returned (.pointer none)) w6)
 (Calls P F.«dedup_New» ⟨[]⟩ w6 fun e8 w8 => ∃ p8 : Option Addr, e8 = .returned (.pointer p8) ∧
  letW (w8.alloc (.cells ⟨[(.pointer none)]⟩ T.«p_dedup_Table»)) fun u0_1 =>
  (∃ old, u0_1.cell? ((⟨w8.heap.size, 0, none⟩ : Addr).add 0) = some old) ∧ u0_1.frozen? ((⟨w8.heap.size, 0, none⟩ : Addr).add 0) = false ∧
  letW (u0_1.setCell ((⟨w8.heap.size, 0, none⟩ : Addr).add 0) (.pointer p8)) fun u0_2 =>
  ∃ p9 : Option Addr, u0_2.cell? ⟨w.heap.size, 0, none⟩ = some (.pointer p9) ∧
  Calls P F.«dedup_Table_All» ⟨[.pointer p9]⟩ u0_2 fun e10 w10 => ∃ v10 : Value, e10 = .returned (v10) ∧
  onFunc v10 fun gf first caps => bW (Bd gf) (∀ (y : Value) (rec : LoopState → Option Code → Obj),
   (∀ R' : Ending → World → Prop, ∀ (n11 : Int), ∀ (wr : World), wr.heap[(w10.heap.size + 1)]? = some (rec .ready none) →
    (wr.heap[(w10.heap.size + 1)]? = some (rec .ready none) ∧
     letW (wr.putObj (w10.heap.size + 1) (rec .busy none)) fun u0_3 =>
     ∃ p12 : Option Addr, u0_3.cell? ⟨w8.heap.size, 0, none⟩ = some (.pointer p12) ∧
     ∃ p14 : Option Addr, u0_3.cell? ⟨w.heap.size, 0, none⟩ = some (.pointer p14) ∧
     ptrW p14 fun a15 =>
     ∃ m17 : Option Nat, u0_3.cell? (a15.add 0) = some (.map m17) ∧
     ∃ es19 : List MapEntry, mapAt u0_3 m17 es19 ∧ keysLike (.int .u32 n11) es19 ∧
     ∃ s19_0 : ByteArray, ∃ n19_1 : Int, ∃ n19_2 : Int, ∃ ok19 : Bool, mfind (.int .u32 n11) es19 = (if ok19 then some (.agg ⟨[.string s19_0, .int .i64 n19_1, .int .i64 n19_2]⟩) else none) ∧ (ok19 = false → (.agg ⟨[.string s19_0, .int .i64 n19_1, .int .i64 n19_2]⟩ : Value) = .agg ⟨[.string (bs []), .int .i64 0, .int .i64 0]⟩) ∧
     ∀ wd6, Drew u0_3 wd6 →
     Calls P F.«dedup_Table_put» ⟨[.pointer p12, .int .u32 n11, .agg ⟨[.string s19_0, .int .i64 n19_1, .int .i64 n19_2]⟩]⟩ wd6 fun e20 w20 => e20 = .returned (.tuple ⟨[]⟩) ∧
     w20.heap[(w10.heap.size + 1)]? = some (rec .busy none) ∧ R' (.returned (.bool true)) (w20.putObj (w10.heap.size + 1) (rec .ready none))) → callV P Bd y [.int .u32 n11] wr R') →
   Calls P gf ⟨first ++ [y] ++ caps⟩ ((w10.alloc (.deferred (some []))).alloc (rec .ready none)) fun ef wf => (∃ v, ef = .returned v) ∧
   (((∃ stj, stj ≠ .busy ∧ wf.heap[(w10.heap.size + 1)]? = some (rec stj none) ∧
      letW (wf.putObj (w10.heap.size + 1) (rec .exhausted none)) fun u0_4 =>
      ∃ p21 : Option Addr, u0_4.cell? ⟨w8.heap.size, 0, none⟩ = some (.pointer p21) ∧
      ∃ p22 : Option Addr, u0_4.cell? ⟨w.heap.size, 0, none⟩ = some (.pointer p22) ∧
      ptrW p22 fun a23 =>
      ∃ n25 : Int, u0_4.cell? (a23.add 2) = some (.int .u32 n25) ∧
      ptrW p21 fun a26 =>
      ∀ wd7, Drew u0_4 wd7 →
      (∃ old, wd7.cell? ((a26.add 2).add 0) = some old) ∧ wd7.frozen? ((a26.add 2).add 0) = false ∧
      letW (wd7.setCell ((a26.add 2).add 0) (.int .u32 n25)) fun u0_5 =>
      ∃ p28 : Option Addr, u0_5.cell? ⟨w8.heap.size, 0, none⟩ = some (.pointer p28) ∧
      u0_5.heap[w10.heap.size]? = some (.deferred (some [])) ∧
      letW (u0_5.putObj w10.heap.size (.deferred none)) fun u0_6 =>
      R (.returned (.pointer p28)) u0_6) ∨ (∃ stj, stj ≠ .busy ∧ wf.heap[(w10.heap.size + 1)]? = some (rec stj (some .ret)) ∧
      letW (wf.putObj (w10.heap.size + 1) (rec .exhausted (some .ret))) fun u0_7 =>
      u0_7.heap[w10.heap.size]? = some (.deferred (some [])) ∧
      letW (u0_7.putObj w10.heap.size (.deferred none)) fun u0_8 =>
      R (.returned (.pointer none)) u0_8)))))
def plan_dedup_Table_Copy : Plan := { loops := fun i => match i with | _ => ([], []), cuts := fun i => match i with | _ => none, head := fun i => match i with | 6 => some ([], [0, 1, 2, 3, 4, 5, 6, 7], [8]) | 7 => some ([], [0, 1, 2, 3, 4, 5, 6], [7]) | _ => none, rng := fun i => match i with | 6 => [(.int .u32)] | _ => [] }
theorem ok_dedup_Table_Copy {t0 : Option Addr} {R : Ending → World → Prop} {w : World} (h : V_dedup_Table_Copy t0 R w) : Calls P F.«dedup_Table_Copy» ⟨[.pointer t0]⟩ w R :=
  calls_of_vc tabOk bdOk mixed (fn := Try.f8) (c := bodyOf Try.f8) (pl := plan_dedup_Table_Copy) Try.func8 (by kernel_rfl) (Nat.le_of_ble_eq_true (by kernel_rfl)) (by kernel_rfl)
    (Eq.mp (show V_dedup_Table_Copy t0 R w = vcFun P Tb Bd plan_dedup_Table_Copy (raw Try.f8.ntmps) Try.f8.results.toList (bodyOf Try.f8) [.pointer t0] R w by kernel_rfl) h)

def V_revertref16_Table_Copy (t0 : Option Addr) (R : Ending → World → Prop) (w : World) : Prop :=
 ptrW t0 fun a5 =>
 ∃ n7 : Int, w.cell? (a5.add 1) = some (.int .u32 n7) ∧
 letW (w.alloc (.cells ⟨[.slice none 0 0, .int .u32 n7]⟩ T.«revertref16_Table»)) fun u0 =>
 ∃ (a14 : Option Addr) (l14 c14 : Nat), u0.cell? ((⟨w.heap.size, 0, none⟩ : Addr).add 0) = some (.slice a14 l14 c14) ∧
 ptrW t0 fun a16 =>
 ∃ (a18 : Option Addr) (l18 c18 : Nat), u0.cell? (a16.add 0) = some (.slice a18 l18 c18) ∧
 ∀ wd2, Drew u0 wd2 →
 ∃ (a19 : Option Addr) (l19 c19 : Nat), ∃ w19, (Builtin.append_ ⟨[T.«l_revertref16_Chunk», T.«l_revertref16_Chunk»]⟩ T.«l_revertref16_Chunk» ⟨[.slice a14 l14 c14, .slice a18 l18 c18]⟩).run P wd2 = .ok (.slice a19 l19 c19) w19 ∧
 (∃ old, w19.cell? (((⟨w.heap.size, 0, none⟩ : Addr).add 0).add 0) = some old) ∧ w19.frozen? (((⟨w.heap.size, 0, none⟩ : Addr).add 0).add 0) = false ∧
 letW (w19.setCell (((⟨w.heap.size, 0, none⟩ : Addr).add 0).add 0) (.slice a19 l19 c19)) fun u0_1 =>
 R (.returned (.pointer (some ⟨w.heap.size, 0, none⟩))) u0_1
def plan_revertref16_Table_Copy : Plan := { loops := fun i => match i with | _ => ([], []), cuts := fun i => match i with | _ => none, head := fun i => match i with | 2 => some ([0], [1, 2, 3, 4, 5, 6, 7, 8], [9, 10, 11, 12]) | _ => none, rng := fun i => match i with | _ => [] }
theorem ok_revertref16_Table_Copy {t0 : Option Addr} {R : Ending → World → Prop} {w : World} (h : V_revertref16_Table_Copy t0 R w) : Calls P F.«revertref16_Table_Copy» ⟨[.pointer t0]⟩ w R :=
  calls_of_vc tabOk bdOk mixed (fn := Try.f9) (c := bodyOf Try.f9) (pl := plan_revertref16_Table_Copy) Try.func9 (by kernel_rfl) (Nat.le_of_ble_eq_true (by kernel_rfl)) (by kernel_rfl)
    (Eq.mp (show V_revertref16_Table_Copy t0 R w = vcFun P Tb Bd plan_revertref16_Table_Copy (raw Try.f9.ntmps) Try.f9.results.toList (bodyOf Try.f9) [.pointer t0] R w by kernel_rfl) h)

def V_dedup_Table_Add (t0 : Option Addr) (data1 : ByteArray) (block2 : Int) (R : Ending → World → Prop) (w : World) : Prop :=
 Calls P F.«dedup_Table_is» ⟨[.pointer t0]⟩ w fun e11 w11 => ∃ b11 : Bool, e11 = .returned (.bool b11) ∧
 bcase (!b11) (
  R (.returned (.tuple ⟨[.int .u32 0, .int .i64 1]⟩)) w11)
 (Calls P F.«dedup_Table_may» ⟨[.pointer t0, .string data1]⟩ w11 fun e15 w15 => ∃ n15 : Int, e15 = .returned (.int .i64 n15) ∧
  bcase (n15 != 0) (
   R (.returned (.tuple ⟨[.int .u32 0, .int .i64 n15]⟩)) w15)
  (ptrW t0 fun a22 =>
   ∃ n24 : Int, w15.cell? (a22.add 2) = some (.int .u32 n24) ∧
   bcase (n24 == 4294967295) (
    R (.returned (.tuple ⟨[.int .u32 0, .int .i64 12]⟩)) w15)
   (ptrW t0 fun a27 =>
    ∃ n29 : Int, w15.cell? (a27.add 2) = some (.int .u32 n29) ∧
    Calls P F.«dedup_Table_put» ⟨[.pointer t0, .int .u32 n29, .agg ⟨[.string data1, .int .i64 block2, .int .i64 1]⟩]⟩ w15 fun e35 w35 => e35 = .returned (.tuple ⟨[]⟩) ∧
    R (.returned (.tuple ⟨[.int .u32 n29, .int .i64 0]⟩)) w35)))
def plan_dedup_Table_Add : Plan := { loops := fun i => match i with | _ => ([], []), cuts := fun i => match i with | _ => none, head := fun i => match i with | _ => none, rng := fun i => match i with | _ => [] }
theorem ok_dedup_Table_Add {t0 : Option Addr} {data1 : ByteArray} {block2 : Int} {R : Ending → World → Prop} {w : World} (h : V_dedup_Table_Add t0 data1 block2 R w) : Calls P F.«dedup_Table_Add» ⟨[.pointer t0, .string data1, .int .i64 block2]⟩ w R :=
  calls_of_vc tabOk bdOk mixed (fn := Try.f10) (c := bodyOf Try.f10) (pl := plan_dedup_Table_Add) Try.func10 (by kernel_rfl) (Nat.le_of_ble_eq_true (by kernel_rfl)) (by kernel_rfl)
    (Eq.mp (show V_dedup_Table_Add t0 data1 block2 R w = vcFun P Tb Bd plan_dedup_Table_Add (raw Try.f10.ntmps) Try.f10.results.toList (bodyOf Try.f10) [.pointer t0, .string data1, .int .i64 block2] R w by kernel_rfl) h)

def V_dedup_Table_Release (t0 : Option Addr) (id1 : Int) (R : Ending → World → Prop) (w : World) : Prop :=
 Calls P F.«dedup_Table_find» ⟨[.pointer t0, .int .u32 id1]⟩ w fun e10 w10 => ∃ s10_a_0 : ByteArray, ∃ n10_a_1 : Int, ∃ n10_a_2 : Int, ∃ n10_b : Int, e10 = .returned (.tuple ⟨[.agg ⟨[.string s10_a_0, .int .i64 n10_a_1, .int .i64 n10_a_2]⟩, .int .i64 n10_b]⟩) ∧
 letW (w10.alloc (.cells ⟨[(.string (bs [])), (.int .i64 0), (.int .i64 0)]⟩ T.«dedup_chunk»)) fun u0 =>
 (∃ old, u0.cell? ((⟨w10.heap.size, 0, none⟩ : Addr).add 0) = some old) ∧ u0.frozen? ((⟨w10.heap.size, 0, none⟩ : Addr).add 0) = false ∧
 letW (u0.setCell ((⟨w10.heap.size, 0, none⟩ : Addr).add 0) (.string s10_a_0)) fun u0_1 =>
 (∃ old, u0_1.cell? ((⟨w10.heap.size, 0, none⟩ : Addr).add 1) = some old) ∧ u0_1.frozen? ((⟨w10.heap.size, 0, none⟩ : Addr).add 1) = false ∧
 letW (u0_1.setCell ((⟨w10.heap.size, 0, none⟩ : Addr).add 1) (.int .i64 n10_a_1)) fun u0_2 =>
 (∃ old, u0_2.cell? ((⟨w10.heap.size, 0, none⟩ : Addr).add 2) = some old) ∧ u0_2.frozen? ((⟨w10.heap.size, 0, none⟩ : Addr).add 2) = false ∧
 letW (u0_2.setCell ((⟨w10.heap.size, 0, none⟩ : Addr).add 2) (.int .i64 n10_a_2)) fun u0_3 =>
 bcase (n10_b != 0) (
  R (.returned (.tuple ⟨[.bool false, .int .i64 n10_b]⟩)) u0_3)
 (∃ n17 : Int, u0_3.cell? ((⟨w10.heap.size, 0, none⟩ : Addr).add 2) = some (.int .i64 n17) ∧
  (∃ old, u0_3.cell? (((⟨w10.heap.size, 0, none⟩ : Addr).add 2).add 0) = some old) ∧ u0_3.frozen? (((⟨w10.heap.size, 0, none⟩ : Addr).add 2).add 0) = false ∧
  letW (u0_3.setCell (((⟨w10.heap.size, 0, none⟩ : Addr).add 2).add 0) (.int .i64 (IntKind.wrap .i64 (n17 - 1)))) fun u0_4 =>
  ∃ n21 : Int, u0_4.cell? ((⟨w10.heap.size, 0, none⟩ : Addr).add 2) = some (.int .i64 n21) ∧
  bcase (decide (n21 > 0)) (
   ptrW t0 fun a24 =>
   ∃ m26 : Option Nat, u0_4.cell? (a24.add 0) = some (.map m26) ∧
   ∃ s28_0 : ByteArray, ∃ n28_1 : Int, ∃ n28_2 : Int, (u0_4.cell? ((⟨w10.heap.size, 0, none⟩ : Addr).add 0) = some (.string s28_0) ∧ u0_4.cell? ((⟨w10.heap.size, 0, none⟩ : Addr).add 1) = some (.int .i64 n28_1) ∧ u0_4.cell? ((⟨w10.heap.size, 0, none⟩ : Addr).add 2) = some (.int .i64 n28_2) ∧ True) ∧
   ∀ wd6, Drew u0_4 wd6 →
   ∃ wx6, (Instr.mapUpdate T.«m_u32_dedup_chunk» (.map m26) (.int .u32 id1) (.agg ⟨[.string s28_0, .int .i64 n28_1, .int .i64 n28_2]⟩)).run P wd6 = .ok () wx6 ∧
   R (.returned (.tuple ⟨[.bool false, .int .i64 0]⟩)) wx6)
  (ptrW t0 fun a30 =>
   ∃ m32 : Option Nat, u0_4.cell? (a30.add 0) = some (.map m32) ∧
   ∃ wx5, (Builtin.delete_ ⟨[T.«m_u32_dedup_chunk», T.«u32»]⟩ T.«tup_» ⟨[.map m32, .int .u32 id1]⟩).run P u0_4 = .ok (.tuple ⟨[]⟩) wx5 ∧
   ptrW t0 fun a35 =>
   ∃ p37 : Option Addr, wx5.cell? (a35.add 1) = some (.pointer p37) ∧
   ∃ s39 : ByteArray, wx5.cell? ((⟨w10.heap.size, 0, none⟩ : Addr).add 0) = some (.string s39) ∧
   ∀ wd9, Drew wx5 wd9 →
   Calls P F.«hash_Index_Drop» ⟨[.pointer p37, .string s39, .int .u32 id1]⟩ wd9 fun e41 w41 => ∃ n41 : Int, e41 = .returned (.int .i64 n41) ∧
   R (.returned (.tuple ⟨[.bool true, .int .i64 0]⟩)) w41))
def plan_dedup_Table_Release : Plan := { loops := fun i => match i with | _ => ([], []), cuts := fun i => match i with | _ => none, head := fun i => match i with | 6 => some ([], [0, 1, 2, 3, 4, 5], [6]) | 9 => some ([], [0, 1, 2, 3, 4, 5, 6], [7]) | _ => none, rng := fun i => match i with | _ => [] }
theorem ok_dedup_Table_Release {t0 : Option Addr} {id1 : Int} {R : Ending → World → Prop} {w : World} (h : V_dedup_Table_Release t0 id1 R w) : Calls P F.«dedup_Table_Release» ⟨[.pointer t0, .int .u32 id1]⟩ w R :=
  calls_of_vc tabOk bdOk mixed (fn := Try.f11) (c := bodyOf Try.f11) (pl := plan_dedup_Table_Release) Try.func11 (by kernel_rfl) (Nat.le_of_ble_eq_true (by kernel_rfl)) (by kernel_rfl)
    (Eq.mp (show V_dedup_Table_Release t0 id1 R w = vcFun P Tb Bd plan_dedup_Table_Release (raw Try.f11.ntmps) Try.f11.results.toList (bodyOf Try.f11) [.pointer t0, .int .u32 id1] R w by kernel_rfl) h)

def V_dedup_Table_Skip (t0 : Option Addr) (next1 : Int) (R : Ending → World → Prop) (w : World) : Prop :=
 Calls P F.«dedup_Table_is» ⟨[.pointer t0]⟩ w fun e5 w5 => ∃ b5 : Bool, e5 = .returned (.bool b5) ∧
 bcase b5 (
  ptrW t0 fun a8 =>
  ∃ n10 : Int, w5.cell? (a8.add 2) = some (.int .u32 n10) ∧
  ptrW t0 fun a13 =>
  (∃ old, w5.cell? ((a13.add 2).add 0) = some old) ∧ w5.frozen? ((a13.add 2).add 0) = false ∧
  letW (w5.setCell ((a13.add 2).add 0) (.int .u32 (if next1 > n10 then next1 else n10))) fun u0 =>
  R (.returned (.tuple ⟨[]⟩)) u0)
 (R (.returned (.tuple ⟨[]⟩)) w5)
def plan_dedup_Table_Skip : Plan := { loops := fun i => match i with | _ => ([], []), cuts := fun i => match i with | _ => none, head := fun i => match i with | _ => none, rng := fun i => match i with | _ => [] }
theorem ok_dedup_Table_Skip {t0 : Option Addr} {next1 : Int} {R : Ending → World → Prop} {w : World} (h : V_dedup_Table_Skip t0 next1 R w) : Calls P F.«dedup_Table_Skip» ⟨[.pointer t0, .int .u32 next1]⟩ w R :=
  calls_of_vc tabOk bdOk mixed (fn := Try.f12) (c := bodyOf Try.f12) (pl := plan_dedup_Table_Skip) Try.func12 (by kernel_rfl) (Nat.le_of_ble_eq_true (by kernel_rfl)) (by kernel_rfl)
    (Eq.mp (show V_dedup_Table_Skip t0 next1 R w = vcFun P Tb Bd plan_dedup_Table_Skip (raw Try.f12.ntmps) Try.f12.results.toList (bodyOf Try.f12) [.pointer t0, .int .u32 next1] R w by kernel_rfl) h)

def V_revertlaw16_one (t0 : Option Addr) (r1 : Option Addr) (a2_0 : Int) (a2_1 : Int) (a2_2 : ByteArray) (a2_3 : Int) (a2_4 : Int) (a2_5 : Int) (a2_6 : ByteArray) (R : Ending → World → Prop) (w : World) : Prop :=
 letW (w.alloc (.cells ⟨[.int .u8 a2_0, .int .u32 a2_1, .string a2_2, .int .i64 a2_3, .int .i64 a2_4, .int .u32 a2_5, .string a2_6]⟩ T.«revertlaw16_Act»)) fun u0 =>
 ∃ n18 : Int, u0.cell? ((⟨w.heap.size, 0, none⟩ : Addr).add 0) = some (.int .u8 n18) ∧
 (9 : Int) ≠ 0 ∧ ∃ J5 : Tup [(20, .bool)] → World → Prop, (bcase ((Int.tmod n18 9) == 0) (
   J5 (true, ()) u0)
  (bcase ((Int.tmod n18 9) == 1) (
    J5 (true, ()) u0)
   (J5 (((Int.tmod n18 9) == 2), ()) u0))) ∧
 ∀ (junk5 : St) (b20 : Bool) (wJ5 : World), J5 (b20, ()) wJ5 →
 bcase b20 (
  ∃ s27 : ByteArray, wJ5.cell? ((⟨w.heap.size, 0, none⟩ : Addr).add 2) = some (.string s27) ∧
  ∃ n29 : Int, wJ5.cell? ((⟨w.heap.size, 0, none⟩ : Addr).add 3) = some (.int .i64 n29) ∧
  Calls P F.«dedup_Table_Add» ⟨[.pointer t0, .string s27, .int .i64 n29]⟩ wJ5 fun e30 w30 => ∃ n30_a : Int, ∃ n30_b : Int, e30 = .returned (.tuple ⟨[.int .u32 n30_a, .int .i64 n30_b]⟩) ∧
  ∃ s36 : ByteArray, w30.cell? ((⟨w.heap.size, 0, none⟩ : Addr).add 2) = some (.string s36) ∧
  ∃ n38 : Int, w30.cell? ((⟨w.heap.size, 0, none⟩ : Addr).add 3) = some (.int .i64 n38) ∧
  Calls P F.«revertref16_Table_Add» ⟨[.pointer r1, .string s36, .int .i64 n38]⟩ w30 fun e39 w39 => ∃ n39_a : Int, ∃ n39_b : Int, e39 = .returned (.tuple ⟨[.int .u32 n39_a, .int .i64 n39_b]⟩) ∧
  bcase (n30_a == n39_a) (
   R (.returned (.bool (n30_b == n39_b))) w39)
  (R (.returned (.bool false)) w39))
 (bcase ((Int.tmod n18 9) == 3) (
   ∃ n54 : Int, wJ5.cell? ((⟨w.heap.size, 0, none⟩ : Addr).add 1) = some (.int .u32 n54) ∧
   ∃ s56 : ByteArray, wJ5.cell? ((⟨w.heap.size, 0, none⟩ : Addr).add 2) = some (.string s56) ∧
   ∃ n58 : Int, wJ5.cell? ((⟨w.heap.size, 0, none⟩ : Addr).add 3) = some (.int .i64 n58) ∧
   ∃ n60 : Int, wJ5.cell? ((⟨w.heap.size, 0, none⟩ : Addr).add 4) = some (.int .i64 n60) ∧
   Calls P F.«dedup_Table_Load» ⟨[.pointer t0, .int .u32 n54, .string s56, .int .i64 n58, .int .i64 n60]⟩ wJ5 fun e61 w61 => ∃ n61 : Int, e61 = .returned (.int .i64 n61) ∧
   ∃ n65 : Int, w61.cell? ((⟨w.heap.size, 0, none⟩ : Addr).add 1) = some (.int .u32 n65) ∧
   ∃ s67 : ByteArray, w61.cell? ((⟨w.heap.size, 0, none⟩ : Addr).add 2) = some (.string s67) ∧
   ∃ n69 : Int, w61.cell? ((⟨w.heap.size, 0, none⟩ : Addr).add 3) = some (.int .i64 n69) ∧
   ∃ n71 : Int, w61.cell? ((⟨w.heap.size, 0, none⟩ : Addr).add 4) = some (.int .i64 n71) ∧
   Calls P F.«revertref16_Table_Load» ⟨[.pointer r1, .agg ⟨[.int .u32 n65, .string s67, .int .i64 n69, .int .i64 n71]⟩]⟩ w61 fun e73 w73 => ∃ n73 : Int, e73 = .returned (.int .i64 n73) ∧
   R (.returned (.bool (n61 == n73))) w73)
  (bcase ((Int.tmod n18 9) == 4) (
    ∃ n79 : Int, wJ5.cell? ((⟨w.heap.size, 0, none⟩ : Addr).add 1) = some (.int .u32 n79) ∧
    Calls P F.«dedup_Table_Hold» ⟨[.pointer t0, .int .u32 n79]⟩ wJ5 fun e80 w80 => ∃ n80 : Int, e80 = .returned (.int .i64 n80) ∧
    ∃ n84 : Int, w80.cell? ((⟨w.heap.size, 0, none⟩ : Addr).add 1) = some (.int .u32 n84) ∧
    Calls P F.«revertref16_Table_Hold» ⟨[.pointer r1, .int .u32 n84]⟩ w80 fun e85 w85 => ∃ n85 : Int, e85 = .returned (.int .i64 n85) ∧
    R (.returned (.bool (n80 == n85))) w85)
   (∃ J16 : Tup [(87, .bool)] → World → Prop, (bcase ((Int.tmod n18 9) == 5) (
      J16 (true, ()) wJ5)
     (J16 (((Int.tmod n18 9) == 6), ()) wJ5)) ∧
    ∀ (junk16 : St) (b87 : Bool) (wJ16 : World), J16 (b87, ()) wJ16 →
    bcase b87 (
     ∃ n93 : Int, wJ16.cell? ((⟨w.heap.size, 0, none⟩ : Addr).add 1) = some (.int .u32 n93) ∧
     Calls P F.«dedup_Table_Release» ⟨[.pointer t0, .int .u32 n93]⟩ wJ16 fun e94 w94 => ∃ b94_a : Bool, ∃ n94_b : Int, e94 = .returned (.tuple ⟨[.bool b94_a, .int .i64 n94_b]⟩) ∧
     ∃ n100 : Int, w94.cell? ((⟨w.heap.size, 0, none⟩ : Addr).add 1) = some (.int .u32 n100) ∧
     Calls P F.«revertref16_Table_Release» ⟨[.pointer r1, .int .u32 n100]⟩ w94 fun e101 w101 => ∃ b101_a : Bool, ∃ n101_b : Int, e101 = .returned (.tuple ⟨[.bool b101_a, .int .i64 n101_b]⟩) ∧
     bcase (b94_a == b101_a) (
      R (.returned (.bool (n94_b == n101_b))) w101)
     (R (.returned (.bool false)) w101))
    (bcase ((Int.tmod n18 9) == 7) (
      ∃ n116 : Int, wJ16.cell? ((⟨w.heap.size, 0, none⟩ : Addr).add 1) = some (.int .u32 n116) ∧
      Calls P F.«dedup_Table_Skip» ⟨[.pointer t0, .int .u32 n116]⟩ wJ16 fun e117 w117 => e117 = .returned (.tuple ⟨[]⟩) ∧
      ∃ n120 : Int, w117.cell? ((⟨w.heap.size, 0, none⟩ : Addr).add 1) = some (.int .u32 n120) ∧
      Calls P F.«revertref16_Table_Skip» ⟨[.pointer r1, .int .u32 n120]⟩ w117 fun e121 w121 => e121 = .returned (.tuple ⟨[]⟩) ∧
      R (.returned (.bool true)) w121)
     (R (.returned (.bool true)) wJ16)))))
def plan_revertlaw16_one : Plan := { loops := fun i => match i with | _ => ([], []), cuts := fun i => match i with | 5 => some ([(20, .bool)], [20, 21, 22, 23]) | 16 => some ([(87, .bool)], [87, 88, 89]) | _ => none, head := fun i => match i with | _ => none, rng := fun i => match i with | _ => [] }
theorem ok_revertlaw16_one {t0 : Option Addr} {r1 : Option Addr} {a2_0 : Int} {a2_1 : Int} {a2_2 : ByteArray} {a2_3 : Int} {a2_4 : Int} {a2_5 : Int} {a2_6 : ByteArray} {R : Ending → World → Prop} {w : World} (h : V_revertlaw16_one t0 r1 a2_0 a2_1 a2_2 a2_3 a2_4 a2_5 a2_6 R w) : Calls P F.«revertlaw16_one» ⟨[.pointer t0, .pointer r1, .agg ⟨[.int .u8 a2_0, .int .u32 a2_1, .string a2_2, .int .i64 a2_3, .int .i64 a2_4, .int .u32 a2_5, .string a2_6]⟩]⟩ w R :=
  calls_of_vc tabOk bdOk mixed (fn := Try.f13) (c := bodyOf Try.f13) (pl := plan_revertlaw16_one) Try.func13 (by kernel_rfl) (Nat.le_of_ble_eq_true (by kernel_rfl)) (by kernel_rfl)
    (Eq.mp (show V_revertlaw16_one t0 r1 a2_0 a2_1 a2_2 a2_3 a2_4 a2_5 a2_6 R w = vcFun P Tb Bd plan_revertlaw16_one (raw Try.f13.ntmps) Try.f13.results.toList (bodyOf Try.f13) [.pointer t0, .pointer r1, .agg ⟨[.int .u8 a2_0, .int .u32 a2_1, .string a2_2, .int .i64 a2_3, .int .i64 a2_4, .int .u32 a2_5, .string a2_6]⟩] R w by kernel_rfl) h)

def V_revertlaw16_alike (t0 : Option Addr) (r1 : Option Addr) (id2 : Int) (data3 : ByteArray) (R : Ending → World → Prop) (w : World) : Prop :=
 Calls P F.«dedup_Table_Get» ⟨[.pointer t0, .int .u32 id2]⟩ w fun e20 w20 => ∃ s20_a : ByteArray, ∃ n20_b : Int, ∃ n20_c : Int, ∃ b20_d : Bool, e20 = .returned (.tuple ⟨[.string s20_a, .int .i64 n20_b, .int .i64 n20_c, .bool b20_d]⟩) ∧
 Calls P F.«revertref16_Table_At» ⟨[.pointer r1, .int .u32 id2]⟩ w20 fun e27 w27 => ∃ n27 : Int, e27 = .returned (.int .i64 n27) ∧
 ∃ J5 : Tup [] → World → Prop, (bcase (decide (n27 < 0)) (
   bcase (!(s20_a.toList == (bs []).toList)) (
    R (.returned (.bool false)) w27)
   (bcase (n20_b != 0) (
     R (.returned (.bool false)) w27)
    (bcase (n20_c != 0) (
      R (.returned (.bool false)) w27)
     (bcase b20_d (
       R (.returned (.bool false)) w27)
      (J5 () w27)))))
  (J5 () w27)) ∧
 ∀ (junk5 : St) (wJ5 : World), J5 () wJ5 →
 ∃ J7 : Tup [] → World → Prop, (bcase (decide (n27 ≥ 0)) (
   bcase (!b20_d) (
    R (.returned (.bool false)) wJ5)
   (ptrW r1 fun a57 =>
    ∃ (a59 : Option Addr) (l59 c59 : Nat), wJ5.cell? (a57.add 0) = some (.slice a59 l59 c59) ∧
    (0 ≤ n27 ∧ n27 < (l59 : Int)) ∧
    ptrW a59 fun a61 =>
    ∃ n62_0 : Int, ∃ s62_1 : ByteArray, ∃ n62_2 : Int, ∃ n62_3 : Int, (wJ5.cell? ((a61.add (n27.toNat * 4)).add 0) = some (.int .u32 n62_0) ∧ wJ5.cell? ((a61.add (n27.toNat * 4)).add 1) = some (.string s62_1) ∧ wJ5.cell? ((a61.add (n27.toNat * 4)).add 2) = some (.int .i64 n62_2) ∧ wJ5.cell? ((a61.add (n27.toNat * 4)).add 3) = some (.int .i64 n62_3) ∧ True) ∧
    ∃ b63 : Bool, eqlRun P .neq T.«revertref16_Chunk» (.agg ⟨[.int .u32 id2, .string s20_a, .int .i64 n20_b, .int .i64 n20_c]⟩) (.agg ⟨[.int .u32 n62_0, .string s62_1, .int .i64 n62_2, .int .i64 n62_3]⟩) wJ5 b63 ∧
    bcase b63 (
     R (.returned (.bool false)) wJ5)
    (J7 () wJ5)))
  (J7 () wJ5)) ∧
 ∀ (junk7 : St) (wJ7 : World), J7 () wJ7 →
 Calls P F.«revertref16_Table_Find» ⟨[.pointer r1, .string data3]⟩ wJ7 fun e68 w68 => ∃ n68 : Int, e68 = .returned (.int .i64 n68) ∧
 Calls P F.«dedup_Table_Find» ⟨[.pointer t0, .string data3]⟩ w68 fun e72 w72 => ∃ n72_a : Int, ∃ b72_b : Bool, e72 = .returned (.tuple ⟨[.int .u32 n72_a, .bool b72_b]⟩) ∧
 bcase (b72_b == (decide (n68 ≥ 0))) (
  bcase (!b72_b) (
   bcase (n72_a == 0) (
    ∃ n104 : Int, qcall P F.«dedup_Table_Count» ⟨[.pointer t0]⟩ w72 (.int .i64 n104) ∧
    ptrW r1 fun a106 =>
    ∃ (a108 : Option Addr) (l108 c108 : Nat), w72.cell? (a106.add 0) = some (.slice a108 l108 c108) ∧
    bcase (n104 == (l108 : Int)) (
     ∃ n114 : Int, qcall P F.«dedup_Table_Next» ⟨[.pointer t0]⟩ w72 (.int .u32 n114) ∧
     ptrW r1 fun a116 =>
     ∃ n118 : Int, w72.cell? (a116.add 1) = some (.int .u32 n118) ∧
     ∀ wd9, Drew w72 wd9 →
     R (.returned (.bool (n114 == n118))) wd9)
    (∀ wd9, Drew w72 wd9 →
     R (.returned (.bool false)) wd9))
   (bcase b72_b (
     ptrW r1 fun a91 =>
     ∃ (a93 : Option Addr) (l93 c93 : Nat), w72.cell? (a91.add 0) = some (.slice a93 l93 c93) ∧
     (0 ≤ n68 ∧ n68 < (l93 : Int)) ∧
     ptrW a93 fun a95 =>
     ∃ n97 : Int, w72.cell? ((a95.add (n68.toNat * 4)).add 0) = some (.int .u32 n97) ∧
     bcase (n72_a == n97) (
      ∃ n104_1 : Int, qcall P F.«dedup_Table_Count» ⟨[.pointer t0]⟩ w72 (.int .i64 n104_1) ∧
      ptrW r1 fun a106_1 =>
      ∃ (a108_1 : Option Addr) (l108_1 c108_1 : Nat), w72.cell? (a106_1.add 0) = some (.slice a108_1 l108_1 c108_1) ∧
      bcase (n104_1 == (l108_1 : Int)) (
       ∃ n114_1 : Int, qcall P F.«dedup_Table_Next» ⟨[.pointer t0]⟩ w72 (.int .u32 n114_1) ∧
       ptrW r1 fun a116_1 =>
       ∃ n118_1 : Int, w72.cell? (a116_1.add 1) = some (.int .u32 n118_1) ∧
       ∀ wd9, Drew w72 wd9 →
       R (.returned (.bool (n114_1 == n118_1))) wd9)
      (∀ wd9, Drew w72 wd9 →
       R (.returned (.bool false)) wd9))
     (∀ wd9, Drew w72 wd9 →
      R (.returned (.bool false)) wd9))
    (∀ wd9, Drew w72 wd9 →
     R (.returned (.bool false)) wd9)))
  (bcase b72_b (
    ptrW r1 fun a91_1 =>
    ∃ (a93_1 : Option Addr) (l93_1 c93_1 : Nat), w72.cell? (a91_1.add 0) = some (.slice a93_1 l93_1 c93_1) ∧
    (0 ≤ n68 ∧ n68 < (l93_1 : Int)) ∧
    ptrW a93_1 fun a95_1 =>
    ∃ n97_1 : Int, w72.cell? ((a95_1.add (n68.toNat * 4)).add 0) = some (.int .u32 n97_1) ∧
    bcase (n72_a == n97_1) (
     ∃ n104_2 : Int, qcall P F.«dedup_Table_Count» ⟨[.pointer t0]⟩ w72 (.int .i64 n104_2) ∧
     ptrW r1 fun a106_2 =>
     ∃ (a108_2 : Option Addr) (l108_2 c108_2 : Nat), w72.cell? (a106_2.add 0) = some (.slice a108_2 l108_2 c108_2) ∧
     bcase (n104_2 == (l108_2 : Int)) (
      ∃ n114_2 : Int, qcall P F.«dedup_Table_Next» ⟨[.pointer t0]⟩ w72 (.int .u32 n114_2) ∧
      ptrW r1 fun a116_2 =>
      ∃ n118_2 : Int, w72.cell? (a116_2.add 1) = some (.int .u32 n118_2) ∧
      ∀ wd9, Drew w72 wd9 →
      R (.returned (.bool (n114_2 == n118_2))) wd9)
     (∀ wd9, Drew w72 wd9 →
      R (.returned (.bool false)) wd9))
    (∀ wd9, Drew w72 wd9 →
     R (.returned (.bool false)) wd9))
   (∀ wd9, Drew w72 wd9 →
    R (.returned (.bool false)) wd9)))
 (∀ wd9, Drew w72 wd9 →
  R (.returned (.bool false)) wd9)
def plan_revertlaw16_alike : Plan := { loops := fun i => match i with | _ => ([], []), cuts := fun i => match i with | 5 => some ([], [8, 28, 29, 30, 31, 32, 33, 34, 35, 36, 37, 38, 39, 40, 41, 42, 43, 44]) | 7 => some ([], [8, 45, 46, 47, 48, 49, 50, 51, 52, 53, 54, 55, 56, 57, 58, 59, 60, 61, 62, 63, 64, 65]) | _ => none, head := fun i => match i with | 9 => some ([], [0, 1, 2, 3, 4, 5, 6, 7, 8, 9, 10, 11, 12, 13, 14, 15, 16, 17, 18, 19, 20, 21, 22, 23, 24, 25, 26, 27, 28, 29, 30, 31, 32, 33, 34, 35, 36, 37, 38, 39, 40, 41, 42, 43, 44, 45, 46], []) | _ => none, rng := fun i => match i with | _ => [] }
theorem ok_revertlaw16_alike {t0 : Option Addr} {r1 : Option Addr} {id2 : Int} {data3 : ByteArray} {R : Ending → World → Prop} {w : World} (h : V_revertlaw16_alike t0 r1 id2 data3 R w) : Calls P F.«revertlaw16_alike» ⟨[.pointer t0, .pointer r1, .int .u32 id2, .string data3]⟩ w R :=
  calls_of_vc tabOk bdOk mixed (fn := Try.f14) (c := bodyOf Try.f14) (pl := plan_revertlaw16_alike) Try.func14 (by kernel_rfl) (Nat.le_of_ble_eq_true (by kernel_rfl)) (by kernel_rfl)
    (Eq.mp (show V_revertlaw16_alike t0 r1 id2 data3 R w = vcFun P Tb Bd plan_revertlaw16_alike (raw Try.f14.ntmps) Try.f14.results.toList (bodyOf Try.f14) [.pointer t0, .pointer r1, .int .u32 id2, .string data3] R w by kernel_rfl) h)

def V_revertlaw16_listed (t0 : Option Addr) (r1 : Option Addr) (R : Ending → World → Prop) (w : World) : Prop :=
 letW (w.alloc (.cells ⟨[.pointer r1]⟩ T.«p_revertref16_Table»)) fun u0 =>
 letW (u0.alloc (.cells ⟨[(.bool false)]⟩ T.«bool»)) fun u0_1 =>
 Calls P F.«dedup_Table_All» ⟨[.pointer t0]⟩ u0_1 fun e9 w9 => ∃ v9 : Value, e9 = .returned (v9) ∧
 ∃ b11 : Bool, eqlRun P .eql T.«iter_Seq_uint32» (v9) (.nilFunc) w9 b11 ∧
 bcase b11 (
  (∃ old, w9.cell? ((⟨u0.heap.size, 0, none⟩ : Addr).add 0) = some old) ∧ w9.frozen? ((⟨u0.heap.size, 0, none⟩ : Addr).add 0) = false ∧
  letW (w9.setCell ((⟨u0.heap.size, 0, none⟩ : Addr).add 0) (.bool false)) fun u0_2 =>
  ∃ br0 : Bool, u0_2.cell? ⟨u0.heap.size, 0, none⟩ = some (.bool br0) ∧
  R (.returned (.bool br0)) u0_2)
 (letW (w9.alloc (.cells ⟨[(.int .i64 0)]⟩ T.«i64'»)) fun u0_3 =>
  (∃ old, u0_3.cell? ((⟨w9.heap.size, 0, none⟩ : Addr).add 0) = some old) ∧ u0_3.frozen? ((⟨w9.heap.size, 0, none⟩ : Addr).add 0) = false ∧
  letW (u0_3.setCell ((⟨w9.heap.size, 0, none⟩ : Addr).add 0) (.int .i64 0)) fun u0_4 =>
  onFunc v9 fun gf first caps => bW (Bd gf) (∀ (y : Value) (rec : LoopState → Option Code → Obj),
   (∀ R' : Ending → World → Prop, ∀ (n13 : Int), ∀ (wr : World), wr.heap[(u0_4.heap.size + 1)]? = some (rec .ready none) →
    (wr.heap[(u0_4.heap.size + 1)]? = some (rec .ready none) ∧
     letW (wr.putObj (u0_4.heap.size + 1) (rec .busy none)) fun u0_5 =>
     ∃ n14 : Int, u0_5.cell? ⟨w9.heap.size, 0, none⟩ = some (.int .i64 n14) ∧
     ∃ p15 : Option Addr, u0_5.cell? ⟨w.heap.size, 0, none⟩ = some (.pointer p15) ∧
     ptrW p15 fun a16 =>
     ∃ (a18 : Option Addr) (l18 c18 : Nat), u0_5.cell? (a16.add 0) = some (.slice a18 l18 c18) ∧
     bcase (decide (n14 ≥ (l18 : Int))) (
      ∀ wd7, Drew u0_5 wd7 →
      (∃ old, wd7.cell? ((⟨u0.heap.size, 0, none⟩ : Addr).add 0) = some old) ∧ wd7.frozen? ((⟨u0.heap.size, 0, none⟩ : Addr).add 0) = false ∧
      letW (wd7.setCell ((⟨u0.heap.size, 0, none⟩ : Addr).add 0) (.bool false)) fun u0_6 =>
      u0_6.heap[(u0_4.heap.size + 1)]? = some (rec .busy none) ∧ R' (.returned (.bool false)) (u0_6.putObj (u0_4.heap.size + 1) (rec .done (some .ret))))
     (∃ p22 : Option Addr, u0_5.cell? ⟨w.heap.size, 0, none⟩ = some (.pointer p22) ∧
      ptrW p22 fun a23 =>
      ∃ (a25 : Option Addr) (l25 c25 : Nat), u0_5.cell? (a23.add 0) = some (.slice a25 l25 c25) ∧
      ∃ n26 : Int, u0_5.cell? ⟨w9.heap.size, 0, none⟩ = some (.int .i64 n26) ∧
      (0 ≤ n26 ∧ n26 < (l25 : Int)) ∧
      ptrW a25 fun a27 =>
      ∃ n29 : Int, u0_5.cell? ((a27.add (n26.toNat * 4)).add 0) = some (.int .u32 n29) ∧
      ∀ wd7, Drew u0_5 wd7 →
      bcase (n29 != n13) (
       (∃ old, wd7.cell? ((⟨u0.heap.size, 0, none⟩ : Addr).add 0) = some old) ∧ wd7.frozen? ((⟨u0.heap.size, 0, none⟩ : Addr).add 0) = false ∧
       letW (wd7.setCell ((⟨u0.heap.size, 0, none⟩ : Addr).add 0) (.bool false)) fun u0_7 =>
       u0_7.heap[(u0_4.heap.size + 1)]? = some (rec .busy none) ∧ R' (.returned (.bool false)) (u0_7.putObj (u0_4.heap.size + 1) (rec .done (some .ret))))
      (∃ n33 : Int, wd7.cell? ⟨w9.heap.size, 0, none⟩ = some (.int .i64 n33) ∧
       (∃ old, wd7.cell? ((⟨w9.heap.size, 0, none⟩ : Addr).add 0) = some old) ∧ wd7.frozen? ((⟨w9.heap.size, 0, none⟩ : Addr).add 0) = false ∧
       letW (wd7.setCell ((⟨w9.heap.size, 0, none⟩ : Addr).add 0) (.int .i64 (IntKind.wrap .i64 (n33 + 1)))) fun u0_8 =>
       u0_8.heap[(u0_4.heap.size + 1)]? = some (rec .busy none) ∧ R' (.returned (.bool true)) (u0_8.putObj (u0_4.heap.size + 1) (rec .ready none))))) → callV P Bd y [.int .u32 n13] wr R') →
   Calls P gf ⟨first ++ [y] ++ caps⟩ ((u0_4.alloc (.deferred (some []))).alloc (rec .ready none)) fun ef wf => (∃ v, ef = .returned v) ∧
   (((∃ stj, stj ≠ .busy ∧ wf.heap[(u0_4.heap.size + 1)]? = some (rec stj none) ∧
      letW (wf.putObj (u0_4.heap.size + 1) (rec .exhausted none)) fun u0_9 =>
      ∃ n35 : Int, u0_9.cell? ⟨w9.heap.size, 0, none⟩ = some (.int .i64 n35) ∧
      ∃ p36 : Option Addr, u0_9.cell? ⟨w.heap.size, 0, none⟩ = some (.pointer p36) ∧
      ptrW p36 fun a37 =>
      ∃ (a39 : Option Addr) (l39 c39 : Nat), u0_9.cell? (a37.add 0) = some (.slice a39 l39 c39) ∧
      ∀ wd10, Drew u0_9 wd10 →
      (∃ old, wd10.cell? ((⟨u0.heap.size, 0, none⟩ : Addr).add 0) = some old) ∧ wd10.frozen? ((⟨u0.heap.size, 0, none⟩ : Addr).add 0) = false ∧
      letW (wd10.setCell ((⟨u0.heap.size, 0, none⟩ : Addr).add 0) (.bool (n35 == (l39 : Int)))) fun u0_10 =>
      u0_10.heap[u0_4.heap.size]? = some (.deferred (some [])) ∧
      letW (u0_10.putObj u0_4.heap.size (.deferred none)) fun u0_11 =>
      ∃ br0_1 : Bool, u0_11.cell? ⟨u0.heap.size, 0, none⟩ = some (.bool br0_1) ∧
      R (.returned (.bool br0_1)) u0_11) ∨ (∃ stj, stj ≠ .busy ∧ wf.heap[(u0_4.heap.size + 1)]? = some (rec stj (some .ret)) ∧
      letW (wf.putObj (u0_4.heap.size + 1) (rec .exhausted (some .ret))) fun u0_12 =>
      u0_12.heap[u0_4.heap.size]? = some (.deferred (some [])) ∧
      letW (u0_12.putObj u0_4.heap.size (.deferred none)) fun u0_13 =>
      ∃ br0_2 : Bool, u0_13.cell? ⟨u0.heap.size, 0, none⟩ = some (.bool br0_2) ∧
      R (.returned (.bool br0_2)) u0_13)))))
def plan_revertlaw16_listed : Plan := { loops := fun i => match i with | _ => ([], []), cuts := fun i => match i with | _ => none, head := fun i => match i with | 7 => some ([], [0, 1, 2, 3, 4, 5, 6, 7, 8, 9, 10, 11, 12, 13, 14, 15, 16, 17, 18], []) | 10 => some ([], [0, 1, 2, 3, 4, 5, 6], [7]) | _ => none, rng := fun i => match i with | 7 => [(.int .u32)] | _ => [] }
theorem ok_revertlaw16_listed {t0 : Option Addr} {r1 : Option Addr} {R : Ending → World → Prop} {w : World} (h : V_revertlaw16_listed t0 r1 R w) : Calls P F.«revertlaw16_listed» ⟨[.pointer t0, .pointer r1]⟩ w R :=
  calls_of_vc tabOk bdOk mixed (fn := Try.f15) (c := bodyOf Try.f15) (pl := plan_revertlaw16_listed) Try.func15 (by kernel_rfl) (Nat.le_of_ble_eq_true (by kernel_rfl)) (by kernel_rfl)
    (Eq.mp (show V_revertlaw16_listed t0 r1 R w = vcFun P Tb Bd plan_revertlaw16_listed (raw Try.f15.ntmps) Try.f15.results.toList (bodyOf Try.f15) [.pointer t0, .pointer r1] R w by kernel_rfl) h)

def V_revertlaw16_adds (t0 : Option Addr) (data1 : ByteArray) (block2 : Int) (want3 : Int) (R : Ending → World → Prop) (w : World) : Prop :=
 Calls P F.«dedup_Table_Add» ⟨[.pointer t0, .string data1, .int .i64 block2]⟩ w fun e15 w15 => ∃ n15_a : Int, ∃ n15_b : Int, e15 = .returned (.tuple ⟨[.int .u32 n15_a, .int .i64 n15_b]⟩) ∧
 bcase (n15_a == want3) (
  R (.returned (.bool (n15_b == 0))) w15)
 (R (.returned (.bool false)) w15)
def plan_revertlaw16_adds : Plan := { loops := fun i => match i with | _ => ([], []), cuts := fun i => match i with | _ => none, head := fun i => match i with | _ => none, rng := fun i => match i with | _ => [] }
theorem ok_revertlaw16_adds {t0 : Option Addr} {data1 : ByteArray} {block2 : Int} {want3 : Int} {R : Ending → World → Prop} {w : World} (h : V_revertlaw16_adds t0 data1 block2 want3 R w) : Calls P F.«revertlaw16_adds» ⟨[.pointer t0, .string data1, .int .i64 block2, .int .u32 want3]⟩ w R :=
  calls_of_vc tabOk bdOk mixed (fn := Try.f16) (c := bodyOf Try.f16) (pl := plan_revertlaw16_adds) Try.func16 (by kernel_rfl) (Nat.le_of_ble_eq_true (by kernel_rfl)) (by kernel_rfl)
    (Eq.mp (show V_revertlaw16_adds t0 data1 block2 want3 R w = vcFun P Tb Bd plan_revertlaw16_adds (raw Try.f16.ntmps) Try.f16.results.toList (bodyOf Try.f16) [.pointer t0, .string data1, .int .i64 block2, .int .u32 want3] R w by kernel_rfl) h)

def V_revertlaw16_refused (t0 : Option Addr) (data1 : ByteArray) (want2 : Int) (R : Ending → World → Prop) (w : World) : Prop :=
 Calls P F.«dedup_Table_Add» ⟨[.pointer t0, .string data1, .int .i64 0]⟩ w fun e12 w12 => ∃ n12_a : Int, ∃ n12_b : Int, e12 = .returned (.tuple ⟨[.int .u32 n12_a, .int .i64 n12_b]⟩) ∧
 bcase (n12_a == 0) (
  R (.returned (.bool (n12_b == want2))) w12)
 (R (.returned (.bool false)) w12)
def plan_revertlaw16_refused : Plan := { loops := fun i => match i with | _ => ([], []), cuts := fun i => match i with | _ => none, head := fun i => match i with | _ => none, rng := fun i => match i with | _ => [] }
theorem ok_revertlaw16_refused {t0 : Option Addr} {data1 : ByteArray} {want2 : Int} {R : Ending → World → Prop} {w : World} (h : V_revertlaw16_refused t0 data1 want2 R w) : Calls P F.«revertlaw16_refused» ⟨[.pointer t0, .string data1, .int .i64 want2]⟩ w R :=
  calls_of_vc tabOk bdOk mixed (fn := Try.f17) (c := bodyOf Try.f17) (pl := plan_revertlaw16_refused) Try.func17 (by kernel_rfl) (Nat.le_of_ble_eq_true (by kernel_rfl)) (by kernel_rfl)
    (Eq.mp (show V_revertlaw16_refused t0 data1 want2 R w = vcFun P Tb Bd plan_revertlaw16_refused (raw Try.f17.ntmps) Try.f17.results.toList (bodyOf Try.f17) [.pointer t0, .string data1, .int .i64 want2] R w by kernel_rfl) h)

def V_revertlaw16_finds (t0 : Option Addr) (data1 : ByteArray) (want2 : Int) (R : Ending → World → Prop) (w : World) : Prop :=
 Calls P F.«dedup_Table_Find» ⟨[.pointer t0, .string data1]⟩ w fun e12 w12 => ∃ n12_a : Int, ∃ b12_b : Bool, e12 = .returned (.tuple ⟨[.int .u32 n12_a, .bool b12_b]⟩) ∧
 bcase (n12_a == want2) (
  R (.returned (.bool (b12_b == (decide (want2 > 0))))) w12)
 (R (.returned (.bool false)) w12)
def plan_revertlaw16_finds : Plan := { loops := fun i => match i with | _ => ([], []), cuts := fun i => match i with | _ => none, head := fun i => match i with | _ => none, rng := fun i => match i with | _ => [] }
theorem ok_revertlaw16_finds {t0 : Option Addr} {data1 : ByteArray} {want2 : Int} {R : Ending → World → Prop} {w : World} (h : V_revertlaw16_finds t0 data1 want2 R w) : Calls P F.«revertlaw16_finds» ⟨[.pointer t0, .string data1, .int .u32 want2]⟩ w R :=
  calls_of_vc tabOk bdOk mixed (fn := Try.f18) (c := bodyOf Try.f18) (pl := plan_revertlaw16_finds) Try.func18 (by kernel_rfl) (Nat.le_of_ble_eq_true (by kernel_rfl)) (by kernel_rfl)
    (Eq.mp (show V_revertlaw16_finds t0 data1 want2 R w = vcFun P Tb Bd plan_revertlaw16_finds (raw Try.f18.ntmps) Try.f18.results.toList (bodyOf Try.f18) [.pointer t0, .string data1, .int .u32 want2] R w by kernel_rfl) h)

def V_dedup_Table_Count (t0 : Option Addr) (R : Ending → World → Prop) (w : World) : Prop :=
 Calls P F.«dedup_Table_is» ⟨[.pointer t0]⟩ w fun e4 w4 => ∃ b4 : Bool, e4 = .returned (.bool b4) ∧
 bcase (!b4) (
  R (.returned (.int .i64 0)) w4)
 (ptrW t0 fun a7 =>
  ∃ m9 : Option Nat, w4.cell? (a7.add 0) = some (.map m9) ∧
  ∃ z10 : Nat, mapLen w4 m9 z10 ∧
  R (.returned (.int .i64 (z10 : Int))) w4)
def plan_dedup_Table_Count : Plan := { loops := fun i => match i with | _ => ([], []), cuts := fun i => match i with | _ => none, head := fun i => match i with | _ => none, rng := fun i => match i with | _ => [] }
theorem ok_dedup_Table_Count {t0 : Option Addr} {R : Ending → World → Prop} {w : World} (h : V_dedup_Table_Count t0 R w) : Calls P F.«dedup_Table_Count» ⟨[.pointer t0]⟩ w R :=
  calls_of_vc tabOk bdOk mixed (fn := Try.f19) (c := bodyOf Try.f19) (pl := plan_dedup_Table_Count) Try.func19 (by kernel_rfl) (Nat.le_of_ble_eq_true (by kernel_rfl)) (by kernel_rfl)
    (Eq.mp (show V_dedup_Table_Count t0 R w = vcFun P Tb Bd plan_dedup_Table_Count (raw Try.f19.ntmps) Try.f19.results.toList (bodyOf Try.f19) [.pointer t0] R w by kernel_rfl) h)

def V_hash_New  (R : Ending → World → Prop) (w : World) : Prop :=
 letW (w.alloc (.cells ⟨[.bool true, .slice none 0 0, .slice none 0 0, .slice none 0 0, .slice none 0 0, .slice none 0 0, .slice none 0 0, .slice none 0 0, .slice none 0 0, .slice none 0 0, .slice none 0 0, .slice none 0 0, .slice none 0 0, .slice none 0 0, .slice none 0 0, .slice none 0 0, .slice none 0 0]⟩ T.«hash_Index»)) fun u0 =>
 R (.returned (.pointer (some ⟨w.heap.size, 0, none⟩))) u0
def plan_hash_New : Plan := { loops := fun i => match i with | _ => ([], []), cuts := fun i => match i with | _ => none, head := fun i => match i with | _ => none, rng := fun i => match i with | _ => [] }
theorem ok_hash_New  {R : Ending → World → Prop} {w : World} (h : V_hash_New  R w) : Calls P F.«hash_New» ⟨[]⟩ w R :=
  calls_of_vc tabOk bdOk mixed (fn := Try.f20) (c := bodyOf Try.f20) (pl := plan_hash_New) Try.func20 (by kernel_rfl) (Nat.le_of_ble_eq_true (by kernel_rfl)) (by kernel_rfl)
    (Eq.mp (show V_hash_New  R w = vcFun P Tb Bd plan_hash_New (raw Try.f20.ntmps) Try.f20.results.toList (bodyOf Try.f20) [] R w by kernel_rfl) h)

def V_dedup_Table_is (t0 : Option Addr) (R : Ending → World → Prop) (w : World) : Prop :=
 bcase (!(t0).isNone) (
  ptrW t0 fun a7 =>
  ∃ m9 : Option Nat, w.cell? (a7.add 0) = some (.map m9) ∧
  R (.returned (.bool (!m9.isNone))) w)
 (R (.returned (.bool false)) w)
def plan_dedup_Table_is : Plan := { loops := fun i => match i with | _ => ([], []), cuts := fun i => match i with | _ => none, head := fun i => match i with | _ => none, rng := fun i => match i with | _ => [] }
theorem ok_dedup_Table_is {t0 : Option Addr} {R : Ending → World → Prop} {w : World} (h : V_dedup_Table_is t0 R w) : Calls P F.«dedup_Table_is» ⟨[.pointer t0]⟩ w R :=
  calls_of_vc tabOk bdOk mixed (fn := Try.f21) (c := bodyOf Try.f21) (pl := plan_dedup_Table_is) Try.func21 (by kernel_rfl) (Nat.le_of_ble_eq_true (by kernel_rfl)) (by kernel_rfl)
    (Eq.mp (show V_dedup_Table_is t0 R w = vcFun P Tb Bd plan_dedup_Table_is (raw Try.f21.ntmps) Try.f21.results.toList (bodyOf Try.f21) [.pointer t0] R w by kernel_rfl) h)

def V_dedup_Table_All (t0 : Option Addr) (R : Ending → World → Prop) (w : World) : Prop :=
 letW (w.alloc (.cells ⟨[.pointer t0]⟩ T.«p_dedup_Table»)) fun u0 =>
 R (.returned (.func (.func F.«dedup_Table_All_1») ⟨[]⟩ ⟨[.pointer (some ⟨w.heap.size, 0, none⟩)]⟩)) u0
def plan_dedup_Table_All : Plan := { loops := fun i => match i with | _ => ([], []), cuts := fun i => match i with | _ => none, head := fun i => match i with | _ => none, rng := fun i => match i with | _ => [] }
theorem ok_dedup_Table_All {t0 : Option Addr} {R : Ending → World → Prop} {w : World} (h : V_dedup_Table_All t0 R w) : Calls P F.«dedup_Table_All» ⟨[.pointer t0]⟩ w R :=
  calls_of_vc tabOk bdOk mixed (fn := Try.f22) (c := bodyOf Try.f22) (pl := plan_dedup_Table_All) Try.func22 (by kernel_rfl) (Nat.le_of_ble_eq_true (by kernel_rfl)) (by kernel_rfl)
    (Eq.mp (show V_dedup_Table_All t0 R w = vcFun P Tb Bd plan_dedup_Table_All (raw Try.f22.ntmps) Try.f22.results.toList (bodyOf Try.f22) [.pointer t0] R w by kernel_rfl) h)

def V_dedup_Table_put (t0 : Option Addr) (id1 : Int) (x2_0 : ByteArray) (x2_1 : Int) (x2_2 : Int) (R : Ending → World → Prop) (w : World) : Prop :=
 letW (w.alloc (.cells ⟨[.string x2_0, .int .i64 x2_1, .int .i64 x2_2]⟩ T.«dedup_chunk»)) fun u0 =>
 ptrW t0 fun a7 =>
 ∃ m9 : Option Nat, u0.cell? (a7.add 0) = some (.map m9) ∧
 ∃ s11_0 : ByteArray, ∃ n11_1 : Int, ∃ n11_2 : Int, (u0.cell? ((⟨w.heap.size, 0, none⟩ : Addr).add 0) = some (.string s11_0) ∧ u0.cell? ((⟨w.heap.size, 0, none⟩ : Addr).add 1) = some (.int .i64 n11_1) ∧ u0.cell? ((⟨w.heap.size, 0, none⟩ : Addr).add 2) = some (.int .i64 n11_2) ∧ True) ∧
 ∀ wd1, Drew u0 wd1 →
 ∃ wx6, (Instr.mapUpdate T.«m_u32_dedup_chunk» (.map m9) (.int .u32 id1) (.agg ⟨[.string s11_0, .int .i64 n11_1, .int .i64 n11_2]⟩)).run P wd1 = .ok () wx6 ∧
 ptrW t0 fun a13 =>
 ∃ p15 : Option Addr, wx6.cell? (a13.add 1) = some (.pointer p15) ∧
 ∃ s17 : ByteArray, wx6.cell? ((⟨w.heap.size, 0, none⟩ : Addr).add 0) = some (.string s17) ∧
 ∀ wd2, Drew wx6 wd2 →
 Calls P F.«hash_Index_Add» ⟨[.pointer p15, .string s17, .int .u32 id1]⟩ wd2 fun e19 w19 => ∃ n19 : Int, e19 = .returned (.int .i64 n19) ∧
 ptrW t0 fun a22 =>
 ∃ n24 : Int, w19.cell? (a22.add 2) = some (.int .u32 n24) ∧
 ptrW t0 fun a28 =>
 (∃ old, w19.cell? ((a28.add 2).add 0) = some old) ∧ w19.frozen? ((a28.add 2).add 0) = false ∧
 letW (w19.setCell ((a28.add 2).add 0) (.int .u32 (if (IntKind.wrap .u32 (id1 + 1)) > n24 then (IntKind.wrap .u32 (id1 + 1)) else n24))) fun u0_1 =>
 R (.returned (.tuple ⟨[]⟩)) u0_1
def plan_dedup_Table_put : Plan := { loops := fun i => match i with | _ => ([], []), cuts := fun i => match i with | _ => none, head := fun i => match i with | 1 => some ([], [0, 1, 2, 3, 4, 5], [6]) | 2 => some ([], [0, 1, 2, 3, 4, 5, 6], [7]) | _ => none, rng := fun i => match i with | _ => [] }
theorem ok_dedup_Table_put {t0 : Option Addr} {id1 : Int} {x2_0 : ByteArray} {x2_1 : Int} {x2_2 : Int} {R : Ending → World → Prop} {w : World} (h : V_dedup_Table_put t0 id1 x2_0 x2_1 x2_2 R w) : Calls P F.«dedup_Table_put» ⟨[.pointer t0, .int .u32 id1, .agg ⟨[.string x2_0, .int .i64 x2_1, .int .i64 x2_2]⟩]⟩ w R :=
  calls_of_vc tabOk bdOk mixed (fn := Try.f23) (c := bodyOf Try.f23) (pl := plan_dedup_Table_put) Try.func23 (by kernel_rfl) (Nat.le_of_ble_eq_true (by kernel_rfl)) (by kernel_rfl)
    (Eq.mp (show V_dedup_Table_put t0 id1 x2_0 x2_1 x2_2 R w = vcFun P Tb Bd plan_dedup_Table_put (raw Try.f23.ntmps) Try.f23.results.toList (bodyOf Try.f23) [.pointer t0, .int .u32 id1, .agg ⟨[.string x2_0, .int .i64 x2_1, .int .i64 x2_2]⟩] R w by kernel_rfl) h)

def V_dedup_Table_may (t0 : Option Addr) (data1 : ByteArray) (R : Ending → World → Prop) (w : World) : Prop :=
 bcase (data1.toList == (bs []).toList) (
  R (.returned (.int .i64 4)) w)
 (bcase (decide ((data1.size : Int) > 64)) (
   R (.returned (.int .i64 4)) w)
  (Calls P F.«dedup_Table_Find» ⟨[.pointer t0, .string data1]⟩ w fun e17 w17 => ∃ n17_a : Int, ∃ b17_b : Bool, e17 = .returned (.tuple ⟨[.int .u32 n17_a, .bool b17_b]⟩) ∧
   bcase b17_b (
    R (.returned (.int .i64 6)) w17)
   (R (.returned (.int .i64 0)) w17)))
def plan_dedup_Table_may : Plan := { loops := fun i => match i with | _ => ([], []), cuts := fun i => match i with | _ => none, head := fun i => match i with | _ => none, rng := fun i => match i with | _ => [] }
theorem ok_dedup_Table_may {t0 : Option Addr} {data1 : ByteArray} {R : Ending → World → Prop} {w : World} (h : V_dedup_Table_may t0 data1 R w) : Calls P F.«dedup_Table_may» ⟨[.pointer t0, .string data1]⟩ w R :=
  calls_of_vc tabOk bdOk mixed (fn := Try.f24) (c := bodyOf Try.f24) (pl := plan_dedup_Table_may) Try.func24 (by kernel_rfl) (Nat.le_of_ble_eq_true (by kernel_rfl)) (by kernel_rfl)
    (Eq.mp (show V_dedup_Table_may t0 data1 R w = vcFun P Tb Bd plan_dedup_Table_may (raw Try.f24.ntmps) Try.f24.results.toList (bodyOf Try.f24) [.pointer t0, .string data1] R w by kernel_rfl) h)

def V_dedup_Table_find (t0 : Option Addr) (id1 : Int) (R : Ending → World → Prop) (w : World) : Prop :=
 letW (w.alloc (.cells ⟨[(.string (bs [])), (.int .i64 0), (.int .i64 0)]⟩ T.«dedup_chunk»)) fun u0 =>
 Calls P F.«dedup_Table_is» ⟨[.pointer t0]⟩ u0 fun e9 w9 => ∃ b9 : Bool, e9 = .returned (.bool b9) ∧
 bcase (!b9) (
  (∃ old, w9.cell? ((⟨w.heap.size, 0, none⟩ : Addr).add 0) = some old) ∧ w9.frozen? ((⟨w.heap.size, 0, none⟩ : Addr).add 0) = false ∧
  letW (w9.setCell ((⟨w.heap.size, 0, none⟩ : Addr).add 0) (.string (bs []))) fun u0_1 =>
  (∃ old, u0_1.cell? ((⟨w.heap.size, 0, none⟩ : Addr).add 1) = some old) ∧ u0_1.frozen? ((⟨w.heap.size, 0, none⟩ : Addr).add 1) = false ∧
  letW (u0_1.setCell ((⟨w.heap.size, 0, none⟩ : Addr).add 1) (.int .i64 0)) fun u0_2 =>
  (∃ old, u0_2.cell? ((⟨w.heap.size, 0, none⟩ : Addr).add 2) = some old) ∧ u0_2.frozen? ((⟨w.heap.size, 0, none⟩ : Addr).add 2) = false ∧
  letW (u0_2.setCell ((⟨w.heap.size, 0, none⟩ : Addr).add 2) (.int .i64 0)) fun u0_3 =>
  ∃ sr0_0 : ByteArray, ∃ nr0_1 : Int, ∃ nr0_2 : Int, (u0_3.cell? ((⟨w.heap.size, 0, none⟩ : Addr).add 0) = some (.string sr0_0) ∧ u0_3.cell? ((⟨w.heap.size, 0, none⟩ : Addr).add 1) = some (.int .i64 nr0_1) ∧ u0_3.cell? ((⟨w.heap.size, 0, none⟩ : Addr).add 2) = some (.int .i64 nr0_2) ∧ True) ∧
  R (.returned (.tuple ⟨[.agg ⟨[.string sr0_0, .int .i64 nr0_1, .int .i64 nr0_2]⟩, .int .i64 1]⟩)) u0_3)
 (ptrW t0 fun a14 =>
  ∃ m16 : Option Nat, w9.cell? (a14.add 0) = some (.map m16) ∧
  ∃ es18 : List MapEntry, mapAt w9 m16 es18 ∧ keysLike (.int .u32 id1) es18 ∧
  ∃ s18_0 : ByteArray, ∃ n18_1 : Int, ∃ n18_2 : Int, ∃ ok18 : Bool, mfind (.int .u32 id1) es18 = (if ok18 then some (.agg ⟨[.string s18_0, .int .i64 n18_1, .int .i64 n18_2]⟩) else none) ∧ (ok18 = false → (.agg ⟨[.string s18_0, .int .i64 n18_1, .int .i64 n18_2]⟩ : Value) = .agg ⟨[.string (bs []), .int .i64 0, .int .i64 0]⟩) ∧
  letW (w9.alloc (.cells ⟨[(.string (bs [])), (.int .i64 0), (.int .i64 0)]⟩ T.«dedup_chunk»)) fun u0_4 =>
  (∃ old, u0_4.cell? ((⟨w9.heap.size, 0, none⟩ : Addr).add 0) = some old) ∧ u0_4.frozen? ((⟨w9.heap.size, 0, none⟩ : Addr).add 0) = false ∧
  letW (u0_4.setCell ((⟨w9.heap.size, 0, none⟩ : Addr).add 0) (.string s18_0)) fun u0_5 =>
  (∃ old, u0_5.cell? ((⟨w9.heap.size, 0, none⟩ : Addr).add 1) = some old) ∧ u0_5.frozen? ((⟨w9.heap.size, 0, none⟩ : Addr).add 1) = false ∧
  letW (u0_5.setCell ((⟨w9.heap.size, 0, none⟩ : Addr).add 1) (.int .i64 n18_1)) fun u0_6 =>
  (∃ old, u0_6.cell? ((⟨w9.heap.size, 0, none⟩ : Addr).add 2) = some old) ∧ u0_6.frozen? ((⟨w9.heap.size, 0, none⟩ : Addr).add 2) = false ∧
  letW (u0_6.setCell ((⟨w9.heap.size, 0, none⟩ : Addr).add 2) (.int .i64 n18_2)) fun u0_7 =>
  bcase (!ok18) (
   (∃ old, u0_7.cell? ((⟨w.heap.size, 0, none⟩ : Addr).add 0) = some old) ∧ u0_7.frozen? ((⟨w.heap.size, 0, none⟩ : Addr).add 0) = false ∧
   letW (u0_7.setCell ((⟨w.heap.size, 0, none⟩ : Addr).add 0) (.string (bs []))) fun u0_8 =>
   (∃ old, u0_8.cell? ((⟨w.heap.size, 0, none⟩ : Addr).add 1) = some old) ∧ u0_8.frozen? ((⟨w.heap.size, 0, none⟩ : Addr).add 1) = false ∧
   letW (u0_8.setCell ((⟨w.heap.size, 0, none⟩ : Addr).add 1) (.int .i64 0)) fun u0_9 =>
   (∃ old, u0_9.cell? ((⟨w.heap.size, 0, none⟩ : Addr).add 2) = some old) ∧ u0_9.frozen? ((⟨w.heap.size, 0, none⟩ : Addr).add 2) = false ∧
   letW (u0_9.setCell ((⟨w.heap.size, 0, none⟩ : Addr).add 2) (.int .i64 0)) fun u0_10 =>
   ∃ sr0_0_1 : ByteArray, ∃ nr0_1_1 : Int, ∃ nr0_2_1 : Int, (u0_10.cell? ((⟨w.heap.size, 0, none⟩ : Addr).add 0) = some (.string sr0_0_1) ∧ u0_10.cell? ((⟨w.heap.size, 0, none⟩ : Addr).add 1) = some (.int .i64 nr0_1_1) ∧ u0_10.cell? ((⟨w.heap.size, 0, none⟩ : Addr).add 2) = some (.int .i64 nr0_2_1) ∧ True) ∧
   R (.returned (.tuple ⟨[.agg ⟨[.string sr0_0_1, .int .i64 nr0_1_1, .int .i64 nr0_2_1]⟩, .int .i64 5]⟩)) u0_10)
  (∃ s24_0 : ByteArray, ∃ n24_1 : Int, ∃ n24_2 : Int, (u0_7.cell? ((⟨w9.heap.size, 0, none⟩ : Addr).add 0) = some (.string s24_0) ∧ u0_7.cell? ((⟨w9.heap.size, 0, none⟩ : Addr).add 1) = some (.int .i64 n24_1) ∧ u0_7.cell? ((⟨w9.heap.size, 0, none⟩ : Addr).add 2) = some (.int .i64 n24_2) ∧ True) ∧
   (∃ old, u0_7.cell? ((⟨w.heap.size, 0, none⟩ : Addr).add 0) = some old) ∧ u0_7.frozen? ((⟨w.heap.size, 0, none⟩ : Addr).add 0) = false ∧
   letW (u0_7.setCell ((⟨w.heap.size, 0, none⟩ : Addr).add 0) (.string s24_0)) fun u0_11 =>
   (∃ old, u0_11.cell? ((⟨w.heap.size, 0, none⟩ : Addr).add 1) = some old) ∧ u0_11.frozen? ((⟨w.heap.size, 0, none⟩ : Addr).add 1) = false ∧
   letW (u0_11.setCell ((⟨w.heap.size, 0, none⟩ : Addr).add 1) (.int .i64 n24_1)) fun u0_12 =>
   (∃ old, u0_12.cell? ((⟨w.heap.size, 0, none⟩ : Addr).add 2) = some old) ∧ u0_12.frozen? ((⟨w.heap.size, 0, none⟩ : Addr).add 2) = false ∧
   letW (u0_12.setCell ((⟨w.heap.size, 0, none⟩ : Addr).add 2) (.int .i64 n24_2)) fun u0_13 =>
   ∃ sr0_0_2 : ByteArray, ∃ nr0_1_2 : Int, ∃ nr0_2_2 : Int, (u0_13.cell? ((⟨w.heap.size, 0, none⟩ : Addr).add 0) = some (.string sr0_0_2) ∧ u0_13.cell? ((⟨w.heap.size, 0, none⟩ : Addr).add 1) = some (.int .i64 nr0_1_2) ∧ u0_13.cell? ((⟨w.heap.size, 0, none⟩ : Addr).add 2) = some (.int .i64 nr0_2_2) ∧ True) ∧
   R (.returned (.tuple ⟨[.agg ⟨[.string sr0_0_2, .int .i64 nr0_1_2, .int .i64 nr0_2_2]⟩, .int .i64 0]⟩)) u0_13))
def plan_dedup_Table_find : Plan := { loops := fun i => match i with | _ => ([], []), cuts := fun i => match i with | _ => none, head := fun i => match i with | _ => none, rng := fun i => match i with | _ => [] }
theorem ok_dedup_Table_find {t0 : Option Addr} {id1 : Int} {R : Ending → World → Prop} {w : World} (h : V_dedup_Table_find t0 id1 R w) : Calls P F.«dedup_Table_find» ⟨[.pointer t0, .int .u32 id1]⟩ w R :=
  calls_of_vc tabOk bdOk mixed (fn := Try.f25) (c := bodyOf Try.f25) (pl := plan_dedup_Table_find) Try.func25 (by kernel_rfl) (Nat.le_of_ble_eq_true (by kernel_rfl)) (by kernel_rfl)
    (Eq.mp (show V_dedup_Table_find t0 id1 R w = vcFun P Tb Bd plan_dedup_Table_find (raw Try.f25.ntmps) Try.f25.results.toList (bodyOf Try.f25) [.pointer t0, .int .u32 id1] R w by kernel_rfl) h)

def V_hash_Index_Drop (x0 : Option Addr) (s1 : ByteArray) (id2 : Int) (R : Ending → World → Prop) (w : World) : Prop :=
 Calls P F.«hash_Index_is» ⟨[.pointer x0]⟩ w fun e10 w10 => ∃ b10 : Bool, e10 = .returned (.bool b10) ∧
 bcase (!b10) (
  R (.returned (.int .i64 1)) w10)
 (ptrW x0 fun a15 =>
  ∀ wd3, Drew w10 wd3 →
  Calls P F.«hash_Bucket» ⟨[.string s1]⟩ wd3 fun e14 w14 => ∃ n14 : Int, e14 = .returned (.int .u8 n14) ∧
  (0 ≤ n14 ∧ n14 < ((16 : Nat) : Int)) ∧
  ∃ (a20 : Option Addr) (l20 c20 : Nat), w14.cell? ((a15.add 1).add (n14.toNat * 1)) = some (.slice a20 l20 c20) ∧
  Calls P F.«slices_Index_sl_uint32_uint32» ⟨[.slice a20 l20 c20, .int .u32 id2]⟩ w14 fun e22 w22 => ∃ n22 : Int, e22 = .returned (.int .i64 n22) ∧
  bcase (decide (n22 < 0)) (
   R (.returned (.int .i64 5)) w22)
  (∃ (a28 : Option Addr) (l28 c28 : Nat), w22.cell? ((a15.add 1).add (n14.toNat * 1)) = some (.slice a28 l28 c28) ∧
   Calls P F.«slices_Delete_sl_uint32_uint32» ⟨[.slice a28 l28 c28, .int .i64 n22, .int .i64 (IntKind.wrap .i64 (n22 + 1))]⟩ w22 fun e32 w32 => ∃ (a32 : Option Addr) (l32 c32 : Nat), e32 = .returned (.slice a32 l32 c32) ∧
   (∃ old, w32.cell? (((a15.add 1).add (n14.toNat * 1)).add 0) = some old) ∧ w32.frozen? (((a15.add 1).add (n14.toNat * 1)).add 0) = false ∧
   letW (w32.setCell (((a15.add 1).add (n14.toNat * 1)).add 0) (.slice a32 l32 c32)) fun u0 =>
   R (.returned (.int .i64 0)) u0))
def plan_hash_Index_Drop : Plan := { loops := fun i => match i with | _ => ([], []), cuts := fun i => match i with | _ => none, head := fun i => match i with | 3 => some ([0, 3, 4], [1], [2, 5, 6]) | _ => none, rng := fun i => match i with | _ => [] }
theorem ok_hash_Index_Drop {x0 : Option Addr} {s1 : ByteArray} {id2 : Int} {R : Ending → World → Prop} {w : World} (h : V_hash_Index_Drop x0 s1 id2 R w) : Calls P F.«hash_Index_Drop» ⟨[.pointer x0, .string s1, .int .u32 id2]⟩ w R :=
  calls_of_vc tabOk bdOk mixed (fn := Try.f26) (c := bodyOf Try.f26) (pl := plan_hash_Index_Drop) Try.func26 (by kernel_rfl) (Nat.le_of_ble_eq_true (by kernel_rfl)) (by kernel_rfl)
    (Eq.mp (show V_hash_Index_Drop x0 s1 id2 R w = vcFun P Tb Bd plan_hash_Index_Drop (raw Try.f26.ntmps) Try.f26.results.toList (bodyOf Try.f26) [.pointer x0, .string s1, .int .u32 id2] R w by kernel_rfl) h)

def V_revertref16_Table_Add (t0 : Option Addr) (data1 : ByteArray) (block2 : Int) (R : Ending → World → Prop) (w : World) : Prop :=
 bcase (decide ((data1.size : Int) < 1)) (
  R (.returned (.tuple ⟨[.int .u32 0, .int .i64 4]⟩)) w)
 (bcase (decide ((data1.size : Int) > 64)) (
   R (.returned (.tuple ⟨[.int .u32 0, .int .i64 4]⟩)) w)
  (Calls P F.«revertref16_Table_Find» ⟨[.pointer t0, .string data1]⟩ w fun e19 w19 => ∃ n19 : Int, e19 = .returned (.int .i64 n19) ∧
   bcase (decide (n19 ≥ 0)) (
    R (.returned (.tuple ⟨[.int .u32 0, .int .i64 6]⟩)) w19)
   (ptrW t0 fun a22 =>
    ∃ n24 : Int, w19.cell? (a22.add 1) = some (.int .u32 n24) ∧
    bcase (n24 == 4294967295) (
     R (.returned (.tuple ⟨[.int .u32 0, .int .i64 12]⟩)) w19)
    (ptrW t0 fun a27 =>
     ∃ n29 : Int, w19.cell? (a27.add 1) = some (.int .u32 n29) ∧
     Calls P F.«revertref16_Table_put» ⟨[.pointer t0, .agg ⟨[.int .u32 n29, .string data1, .int .i64 block2, .int .i64 1]⟩]⟩ w19 fun e35 w35 => e35 = .returned (.tuple ⟨[]⟩) ∧
     R (.returned (.tuple ⟨[.int .u32 n29, .int .i64 0]⟩)) w35))))
def plan_revertref16_Table_Add : Plan := { loops := fun i => match i with | _ => ([], []), cuts := fun i => match i with | _ => none, head := fun i => match i with | _ => none, rng := fun i => match i with | _ => [] }
theorem ok_revertref16_Table_Add {t0 : Option Addr} {data1 : ByteArray} {block2 : Int} {R : Ending → World → Prop} {w : World} (h : V_revertref16_Table_Add t0 data1 block2 R w) : Calls P F.«revertref16_Table_Add» ⟨[.pointer t0, .string data1, .int .i64 block2]⟩ w R :=
  calls_of_vc tabOk bdOk mixed (fn := Try.f27) (c := bodyOf Try.f27) (pl := plan_revertref16_Table_Add) Try.func27 (by kernel_rfl) (Nat.le_of_ble_eq_true (by kernel_rfl)) (by kernel_rfl)
    (Eq.mp (show V_revertref16_Table_Add t0 data1 block2 R w = vcFun P Tb Bd plan_revertref16_Table_Add (raw Try.f27.ntmps) Try.f27.results.toList (bodyOf Try.f27) [.pointer t0, .string data1, .int .i64 block2] R w by kernel_rfl) h)

def V_dedup_Table_Load (t0 : Option Addr) (id1 : Int) (data2 : ByteArray) (block3 : Int) (refs4 : Int) (R : Ending → World → Prop) (w : World) : Prop :=
 Calls P F.«dedup_Table_is» ⟨[.pointer t0]⟩ w fun e15 w15 => ∃ b15 : Bool, e15 = .returned (.bool b15) ∧
 bcase (!b15) (
  R (.returned (.int .i64 1)) w15)
 (bcase (id1 == 0) (
   R (.returned (.int .i64 2)) w15)
  (bcase (id1 == 4294967295) (
    R (.returned (.int .i64 2)) w15)
   (Calls P F.«dedup_Table_may» ⟨[.pointer t0, .string data2]⟩ w15 fun e25 w25 => ∃ n25 : Int, e25 = .returned (.int .i64 n25) ∧
    ptrW t0 fun a28 =>
    ∃ m30 : Option Nat, w25.cell? (a28.add 0) = some (.map m30) ∧
    ∃ es32 : List MapEntry, mapAt w25 m30 es32 ∧ keysLike (.int .u32 id1) es32 ∧
    ∃ s32_0 : ByteArray, ∃ n32_1 : Int, ∃ n32_2 : Int, ∃ ok32 : Bool, mfind (.int .u32 id1) es32 = (if ok32 then some (.agg ⟨[.string s32_0, .int .i64 n32_1, .int .i64 n32_2]⟩) else none) ∧ (ok32 = false → (.agg ⟨[.string s32_0, .int .i64 n32_1, .int .i64 n32_2]⟩ : Value) = .agg ⟨[.string (bs []), .int .i64 0, .int .i64 0]⟩) ∧
    letW (w25.alloc (.cells ⟨[(.string (bs [])), (.int .i64 0), (.int .i64 0)]⟩ T.«dedup_chunk»)) fun u0 =>
    (∃ old, u0.cell? ((⟨w25.heap.size, 0, none⟩ : Addr).add 0) = some old) ∧ u0.frozen? ((⟨w25.heap.size, 0, none⟩ : Addr).add 0) = false ∧
    letW (u0.setCell ((⟨w25.heap.size, 0, none⟩ : Addr).add 0) (.string s32_0)) fun u0_1 =>
    (∃ old, u0_1.cell? ((⟨w25.heap.size, 0, none⟩ : Addr).add 1) = some old) ∧ u0_1.frozen? ((⟨w25.heap.size, 0, none⟩ : Addr).add 1) = false ∧
    letW (u0_1.setCell ((⟨w25.heap.size, 0, none⟩ : Addr).add 1) (.int .i64 n32_1)) fun u0_2 =>
    (∃ old, u0_2.cell? ((⟨w25.heap.size, 0, none⟩ : Addr).add 2) = some old) ∧ u0_2.frozen? ((⟨w25.heap.size, 0, none⟩ : Addr).add 2) = false ∧
    letW (u0_2.setCell ((⟨w25.heap.size, 0, none⟩ : Addr).add 2) (.int .i64 n32_2)) fun u0_3 =>
    ∃ J8 : Tup [(35, .bool)] → World → Prop, (bcase (n25 == 4) (
      J8 (true, ()) u0_3)
     (bcase (decide (refs4 < 1)) (
       J8 (true, ()) u0_3)
      (J8 ((decide (refs4 > 65535)), ()) u0_3))) ∧
    ∀ (junk8 : St) (b35 : Bool) (wJ8 : World), J8 (b35, ()) wJ8 →
    bcase b35 (
     R (.returned (.int .i64 4)) wJ8)
    (bcase (n25 != 0) (
      R (.returned (.int .i64 6)) wJ8)
     (bcase ok32 (
       R (.returned (.int .i64 6)) wJ8)
      (Calls P F.«dedup_Table_put» ⟨[.pointer t0, .int .u32 id1, .agg ⟨[.string data2, .int .i64 block3, .int .i64 refs4]⟩]⟩ wJ8 fun e58 w58 => e58 = .returned (.tuple ⟨[]⟩) ∧
       R (.returned (.int .i64 0)) w58))))))
def plan_dedup_Table_Load : Plan := { loops := fun i => match i with | _ => ([], []), cuts := fun i => match i with | 8 => some ([(35, .bool)], [35, 36, 37, 38, 39, 40, 41, 42, 43, 44, 45]) | _ => none, head := fun i => match i with | _ => none, rng := fun i => match i with | _ => [] }
theorem ok_dedup_Table_Load {t0 : Option Addr} {id1 : Int} {data2 : ByteArray} {block3 : Int} {refs4 : Int} {R : Ending → World → Prop} {w : World} (h : V_dedup_Table_Load t0 id1 data2 block3 refs4 R w) : Calls P F.«dedup_Table_Load» ⟨[.pointer t0, .int .u32 id1, .string data2, .int .i64 block3, .int .i64 refs4]⟩ w R :=
  calls_of_vc tabOk bdOk mixed (fn := Try.f28) (c := bodyOf Try.f28) (pl := plan_dedup_Table_Load) Try.func28 (by kernel_rfl) (Nat.le_of_ble_eq_true (by kernel_rfl)) (by kernel_rfl)
    (Eq.mp (show V_dedup_Table_Load t0 id1 data2 block3 refs4 R w = vcFun P Tb Bd plan_dedup_Table_Load (raw Try.f28.ntmps) Try.f28.results.toList (bodyOf Try.f28) [.pointer t0, .int .u32 id1, .string data2, .int .i64 block3, .int .i64 refs4] R w by kernel_rfl) h)

def V_revertref16_Table_Load (t0 : Option Addr) (x1_0 : Int) (x1_1 : ByteArray) (x1_2 : Int) (x1_3 : Int) (R : Ending → World → Prop) (w : World) : Prop :=
 letW (w.alloc (.cells ⟨[.int .u32 x1_0, .string x1_1, .int .i64 x1_2, .int .i64 x1_3]⟩ T.«revertref16_Chunk»)) fun u0 =>
 ∃ n6 : Int, u0.cell? ((⟨w.heap.size, 0, none⟩ : Addr).add 0) = some (.int .u32 n6) ∧
 bcase (n6 == 0) (
  R (.returned (.int .i64 2)) u0)
 (∃ n10 : Int, u0.cell? ((⟨w.heap.size, 0, none⟩ : Addr).add 0) = some (.int .u32 n10) ∧
  bcase (n10 == 4294967295) (
   R (.returned (.int .i64 2)) u0)
  (∃ s14 : ByteArray, u0.cell? ((⟨w.heap.size, 0, none⟩ : Addr).add 1) = some (.string s14) ∧
   bcase (decide ((s14.size : Int) < 1)) (
    R (.returned (.int .i64 4)) u0)
   (∃ s19 : ByteArray, u0.cell? ((⟨w.heap.size, 0, none⟩ : Addr).add 1) = some (.string s19) ∧
    bcase (decide ((s19.size : Int) > 64)) (
     R (.returned (.int .i64 4)) u0)
    (∃ n25 : Int, u0.cell? ((⟨w.heap.size, 0, none⟩ : Addr).add 3) = some (.int .i64 n25) ∧
     bcase (decide (n25 < 1)) (
      R (.returned (.int .i64 4)) u0)
     (∃ n30 : Int, u0.cell? ((⟨w.heap.size, 0, none⟩ : Addr).add 3) = some (.int .i64 n30) ∧
      bcase (decide (n30 > 65535)) (
       R (.returned (.int .i64 4)) u0)
      (∃ n35 : Int, u0.cell? ((⟨w.heap.size, 0, none⟩ : Addr).add 0) = some (.int .u32 n35) ∧
       Calls P F.«revertref16_Table_At» ⟨[.pointer t0, .int .u32 n35]⟩ u0 fun e36 w36 => ∃ n36 : Int, e36 = .returned (.int .i64 n36) ∧
       bcase (decide (n36 ≥ 0)) (
        R (.returned (.int .i64 6)) w36)
       (∃ s41 : ByteArray, w36.cell? ((⟨w.heap.size, 0, none⟩ : Addr).add 1) = some (.string s41) ∧
        Calls P F.«revertref16_Table_Find» ⟨[.pointer t0, .string s41]⟩ w36 fun e42 w42 => ∃ n42 : Int, e42 = .returned (.int .i64 n42) ∧
        bcase (decide (n42 ≥ 0)) (
         R (.returned (.int .i64 6)) w42)
        (∃ n46_0 : Int, ∃ s46_1 : ByteArray, ∃ n46_2 : Int, ∃ n46_3 : Int, (w42.cell? ((⟨w.heap.size, 0, none⟩ : Addr).add 0) = some (.int .u32 n46_0) ∧ w42.cell? ((⟨w.heap.size, 0, none⟩ : Addr).add 1) = some (.string s46_1) ∧ w42.cell? ((⟨w.heap.size, 0, none⟩ : Addr).add 2) = some (.int .i64 n46_2) ∧ w42.cell? ((⟨w.heap.size, 0, none⟩ : Addr).add 3) = some (.int .i64 n46_3) ∧ True) ∧
         Calls P F.«revertref16_Table_put» ⟨[.pointer t0, .agg ⟨[.int .u32 n46_0, .string s46_1, .int .i64 n46_2, .int .i64 n46_3]⟩]⟩ w42 fun e47 w47 => e47 = .returned (.tuple ⟨[]⟩) ∧
         R (.returned (.int .i64 0)) w47))))))))
def plan_revertref16_Table_Load : Plan := { loops := fun i => match i with | _ => ([], []), cuts := fun i => match i with | _ => none, head := fun i => match i with | _ => none, rng := fun i => match i with | _ => [] }
theorem ok_revertref16_Table_Load {t0 : Option Addr} {x1_0 : Int} {x1_1 : ByteArray} {x1_2 : Int} {x1_3 : Int} {R : Ending → World → Prop} {w : World} (h : V_revertref16_Table_Load t0 x1_0 x1_1 x1_2 x1_3 R w) : Calls P F.«revertref16_Table_Load» ⟨[.pointer t0, .agg ⟨[.int .u32 x1_0, .string x1_1, .int .i64 x1_2, .int .i64 x1_3]⟩]⟩ w R :=
  calls_of_vc tabOk bdOk mixed (fn := Try.f29) (c := bodyOf Try.f29) (pl := plan_revertref16_Table_Load) Try.func29 (by kernel_rfl) (Nat.le_of_ble_eq_true (by kernel_rfl)) (by kernel_rfl)
    (Eq.mp (show V_revertref16_Table_Load t0 x1_0 x1_1 x1_2 x1_3 R w = vcFun P Tb Bd plan_revertref16_Table_Load (raw Try.f29.ntmps) Try.f29.results.toList (bodyOf Try.f29) [.pointer t0, .agg ⟨[.int .u32 x1_0, .string x1_1, .int .i64 x1_2, .int .i64 x1_3]⟩] R w by kernel_rfl) h)

def V_dedup_Table_Hold (t0 : Option Addr) (id1 : Int) (R : Ending → World → Prop) (w : World) : Prop :=
 Calls P F.«dedup_Table_find» ⟨[.pointer t0, .int .u32 id1]⟩ w fun e10 w10 => ∃ s10_a_0 : ByteArray, ∃ n10_a_1 : Int, ∃ n10_a_2 : Int, ∃ n10_b : Int, e10 = .returned (.tuple ⟨[.agg ⟨[.string s10_a_0, .int .i64 n10_a_1, .int .i64 n10_a_2]⟩, .int .i64 n10_b]⟩) ∧
 letW (w10.alloc (.cells ⟨[(.string (bs [])), (.int .i64 0), (.int .i64 0)]⟩ T.«dedup_chunk»)) fun u0 =>
 (∃ old, u0.cell? ((⟨w10.heap.size, 0, none⟩ : Addr).add 0) = some old) ∧ u0.frozen? ((⟨w10.heap.size, 0, none⟩ : Addr).add 0) = false ∧
 letW (u0.setCell ((⟨w10.heap.size, 0, none⟩ : Addr).add 0) (.string s10_a_0)) fun u0_1 =>
 (∃ old, u0_1.cell? ((⟨w10.heap.size, 0, none⟩ : Addr).add 1) = some old) ∧ u0_1.frozen? ((⟨w10.heap.size, 0, none⟩ : Addr).add 1) = false ∧
 letW (u0_1.setCell ((⟨w10.heap.size, 0, none⟩ : Addr).add 1) (.int .i64 n10_a_1)) fun u0_2 =>
 (∃ old, u0_2.cell? ((⟨w10.heap.size, 0, none⟩ : Addr).add 2) = some old) ∧ u0_2.frozen? ((⟨w10.heap.size, 0, none⟩ : Addr).add 2) = false ∧
 letW (u0_2.setCell ((⟨w10.heap.size, 0, none⟩ : Addr).add 2) (.int .i64 n10_a_2)) fun u0_3 =>
 bcase (n10_b != 0) (
  R (.returned (.int .i64 n10_b)) u0_3)
 (∃ n19 : Int, u0_3.cell? ((⟨w10.heap.size, 0, none⟩ : Addr).add 2) = some (.int .i64 n19) ∧
  bcase (n19 == 65535) (
   R (.returned (.int .i64 12)) u0_3)
  (∃ n22 : Int, u0_3.cell? ((⟨w10.heap.size, 0, none⟩ : Addr).add 2) = some (.int .i64 n22) ∧
   (∃ old, u0_3.cell? (((⟨w10.heap.size, 0, none⟩ : Addr).add 2).add 0) = some old) ∧ u0_3.frozen? (((⟨w10.heap.size, 0, none⟩ : Addr).add 2).add 0) = false ∧
   letW (u0_3.setCell (((⟨w10.heap.size, 0, none⟩ : Addr).add 2).add 0) (.int .i64 (IntKind.wrap .i64 (n22 + 1)))) fun u0_4 =>
   ptrW t0 fun a26 =>
   ∃ m28 : Option Nat, u0_4.cell? (a26.add 0) = some (.map m28) ∧
   ∃ s30_0 : ByteArray, ∃ n30_1 : Int, ∃ n30_2 : Int, (u0_4.cell? ((⟨w10.heap.size, 0, none⟩ : Addr).add 0) = some (.string s30_0) ∧ u0_4.cell? ((⟨w10.heap.size, 0, none⟩ : Addr).add 1) = some (.int .i64 n30_1) ∧ u0_4.cell? ((⟨w10.heap.size, 0, none⟩ : Addr).add 2) = some (.int .i64 n30_2) ∧ True) ∧
   ∀ wd7, Drew u0_4 wd7 →
   ∃ wx6, (Instr.mapUpdate T.«m_u32_dedup_chunk» (.map m28) (.int .u32 id1) (.agg ⟨[.string s30_0, .int .i64 n30_1, .int .i64 n30_2]⟩)).run P wd7 = .ok () wx6 ∧
   R (.returned (.int .i64 0)) wx6))
def plan_dedup_Table_Hold : Plan := { loops := fun i => match i with | _ => ([], []), cuts := fun i => match i with | _ => none, head := fun i => match i with | 7 => some ([], [0, 1, 2, 3, 4, 5], [6]) | _ => none, rng := fun i => match i with | _ => [] }
theorem ok_dedup_Table_Hold {t0 : Option Addr} {id1 : Int} {R : Ending → World → Prop} {w : World} (h : V_dedup_Table_Hold t0 id1 R w) : Calls P F.«dedup_Table_Hold» ⟨[.pointer t0, .int .u32 id1]⟩ w R :=
  calls_of_vc tabOk bdOk mixed (fn := Try.f30) (c := bodyOf Try.f30) (pl := plan_dedup_Table_Hold) Try.func30 (by kernel_rfl) (Nat.le_of_ble_eq_true (by kernel_rfl)) (by kernel_rfl)
    (Eq.mp (show V_dedup_Table_Hold t0 id1 R w = vcFun P Tb Bd plan_dedup_Table_Hold (raw Try.f30.ntmps) Try.f30.results.toList (bodyOf Try.f30) [.pointer t0, .int .u32 id1] R w by kernel_rfl) h)

def V_revertref16_Table_Hold (t0 : Option Addr) (id1 : Int) (R : Ending → World → Prop) (w : World) : Prop :=
 Calls P F.«revertref16_Table_At» ⟨[.pointer t0, .int .u32 id1]⟩ w fun e8 w8 => ∃ n8 : Int, e8 = .returned (.int .i64 n8) ∧
 bcase (decide (n8 < 0)) (
  R (.returned (.int .i64 5)) w8)
 (ptrW t0 fun a12 =>
  ∃ (a14 : Option Addr) (l14 c14 : Nat), w8.cell? (a12.add 0) = some (.slice a14 l14 c14) ∧
  (0 ≤ n8 ∧ n8 < (l14 : Int)) ∧
  ptrW a14 fun a16 =>
  ∃ n18 : Int, w8.cell? ((a16.add (n8.toNat * 4)).add 3) = some (.int .i64 n18) ∧
  bcase (decide (n18 ≥ 65535)) (
   R (.returned (.int .i64 12)) w8)
  (ptrW t0 fun a21 =>
   ∃ (a23 : Option Addr) (l23 c23 : Nat), w8.cell? (a21.add 0) = some (.slice a23 l23 c23) ∧
   (0 ≤ n8 ∧ n8 < (l23 : Int)) ∧
   ptrW a23 fun a25 =>
   ∃ n27 : Int, w8.cell? ((a25.add (n8.toNat * 4)).add 3) = some (.int .i64 n27) ∧
   (0 ≤ n8 ∧ n8 < (l23 : Int)) ∧
   ptrW a23 fun a29 =>
   (∃ old, w8.cell? (((a29.add (n8.toNat * 4)).add 3).add 0) = some old) ∧ w8.frozen? (((a29.add (n8.toNat * 4)).add 3).add 0) = false ∧
   letW (w8.setCell (((a29.add (n8.toNat * 4)).add 3).add 0) (.int .i64 (IntKind.wrap .i64 (n27 + 1)))) fun u0 =>
   R (.returned (.int .i64 0)) u0))
def plan_revertref16_Table_Hold : Plan := { loops := fun i => match i with | _ => ([], []), cuts := fun i => match i with | _ => none, head := fun i => match i with | _ => none, rng := fun i => match i with | _ => [] }
theorem ok_revertref16_Table_Hold {t0 : Option Addr} {id1 : Int} {R : Ending → World → Prop} {w : World} (h : V_revertref16_Table_Hold t0 id1 R w) : Calls P F.«revertref16_Table_Hold» ⟨[.pointer t0, .int .u32 id1]⟩ w R :=
  calls_of_vc tabOk bdOk mixed (fn := Try.f31) (c := bodyOf Try.f31) (pl := plan_revertref16_Table_Hold) Try.func31 (by kernel_rfl) (Nat.le_of_ble_eq_true (by kernel_rfl)) (by kernel_rfl)
    (Eq.mp (show V_revertref16_Table_Hold t0 id1 R w = vcFun P Tb Bd plan_revertref16_Table_Hold (raw Try.f31.ntmps) Try.f31.results.toList (bodyOf Try.f31) [.pointer t0, .int .u32 id1] R w by kernel_rfl) h)

def V_revertref16_Table_Release (t0 : Option Addr) (id1 : Int) (R : Ending → World → Prop) (w : World) : Prop :=
 Calls P F.«revertref16_Table_At» ⟨[.pointer t0, .int .u32 id1]⟩ w fun e10 w10 => ∃ n10 : Int, e10 = .returned (.int .i64 n10) ∧
 bcase (decide (n10 < 0)) (
  R (.returned (.tuple ⟨[.bool false, .int .i64 5]⟩)) w10)
 (ptrW t0 fun a14 =>
  ∃ (a16 : Option Addr) (l16 c16 : Nat), w10.cell? (a14.add 0) = some (.slice a16 l16 c16) ∧
  (0 ≤ n10 ∧ n10 < (l16 : Int)) ∧
  ptrW a16 fun a18 =>
  ∃ n20 : Int, w10.cell? ((a18.add (n10.toNat * 4)).add 3) = some (.int .i64 n20) ∧
  (0 ≤ n10 ∧ n10 < (l16 : Int)) ∧
  ptrW a16 fun a22 =>
  (∃ old, w10.cell? (((a22.add (n10.toNat * 4)).add 3).add 0) = some old) ∧ w10.frozen? (((a22.add (n10.toNat * 4)).add 3).add 0) = false ∧
  letW (w10.setCell (((a22.add (n10.toNat * 4)).add 3).add 0) (.int .i64 (IntKind.wrap .i64 (n20 - 1)))) fun u0 =>
  ptrW t0 fun a25 =>
  ∃ (a27 : Option Addr) (l27 c27 : Nat), u0.cell? (a25.add 0) = some (.slice a27 l27 c27) ∧
  (0 ≤ n10 ∧ n10 < (l27 : Int)) ∧
  ptrW a27 fun a29 =>
  ∃ n31 : Int, u0.cell? ((a29.add (n10.toNat * 4)).add 3) = some (.int .i64 n31) ∧
  bcase (decide (n31 > 0)) (
   R (.returned (.tuple ⟨[.bool false, .int .i64 0]⟩)) u0)
  (ptrW t0 fun a35 =>
   ∃ (a37 : Option Addr) (l37 c37 : Nat), u0.cell? (a35.add 0) = some (.slice a37 l37 c37) ∧
   (0 ≤ (0 : Int) ∧ (0 : Int) ≤ n10 ∧ n10 ≤ (c37 : Int) ∧ (c37 : Int) ≤ (c37 : Int)) ∧
   ∃ (a40 : Option Addr) (l40 c40 : Nat), ∃ w40, (Builtin.append_ ⟨[T.«l_revertref16_Chunk», T.«l_revertref16_Chunk»]⟩ T.«l_revertref16_Chunk» ⟨[.slice none 0 0, .slice (if (c37 : Int).toNat = (0 : Int).toNat then a37 else a37.map (·.add ((0 : Int).toNat * 4))) (n10.toNat - (0 : Int).toNat) ((c37 : Int).toNat - (0 : Int).toNat)]⟩).run P u0 = .ok (.slice a40 l40 c40) w40 ∧
   ptrW t0 fun a44 =>
   ∃ (a46 : Option Addr) (l46 c46 : Nat), w40.cell? (a44.add 0) = some (.slice a46 l46 c46) ∧
   (0 ≤ (IntKind.wrap .i64 (n10 + 1)) ∧ (IntKind.wrap .i64 (n10 + 1)) ≤ (l46 : Int) ∧ (l46 : Int) ≤ (c46 : Int) ∧ (c46 : Int) ≤ (c46 : Int)) ∧
   ∃ (a50 : Option Addr) (l50 c50 : Nat), ∃ w50, (Builtin.append_ ⟨[T.«l_revertref16_Chunk», T.«l_revertref16_Chunk»]⟩ T.«l_revertref16_Chunk» ⟨[.slice a40 l40 c40, .slice (if (c46 : Int).toNat = (IntKind.wrap .i64 (n10 + 1)).toNat then a46 else a46.map (·.add ((IntKind.wrap .i64 (n10 + 1)).toNat * 4))) ((l46 : Int).toNat - (IntKind.wrap .i64 (n10 + 1)).toNat) ((c46 : Int).toNat - (IntKind.wrap .i64 (n10 + 1)).toNat)]⟩).run P w40 = .ok (.slice a50 l50 c50) w50 ∧
   ptrW t0 fun a51 =>
   (∃ old, w50.cell? ((a51.add 0).add 0) = some old) ∧ w50.frozen? ((a51.add 0).add 0) = false ∧
   letW (w50.setCell ((a51.add 0).add 0) (.slice a50 l50 c50)) fun u0_1 =>
   R (.returned (.tuple ⟨[.bool true, .int .i64 0]⟩)) u0_1))
def plan_revertref16_Table_Release : Plan := { loops := fun i => match i with | _ => ([], []), cuts := fun i => match i with | _ => none, head := fun i => match i with | _ => none, rng := fun i => match i with | _ => [] }
theorem ok_revertref16_Table_Release {t0 : Option Addr} {id1 : Int} {R : Ending → World → Prop} {w : World} (h : V_revertref16_Table_Release t0 id1 R w) : Calls P F.«revertref16_Table_Release» ⟨[.pointer t0, .int .u32 id1]⟩ w R :=
  calls_of_vc tabOk bdOk mixed (fn := Try.f32) (c := bodyOf Try.f32) (pl := plan_revertref16_Table_Release) Try.func32 (by kernel_rfl) (Nat.le_of_ble_eq_true (by kernel_rfl)) (by kernel_rfl)
    (Eq.mp (show V_revertref16_Table_Release t0 id1 R w = vcFun P Tb Bd plan_revertref16_Table_Release (raw Try.f32.ntmps) Try.f32.results.toList (bodyOf Try.f32) [.pointer t0, .int .u32 id1] R w by kernel_rfl) h)

def V_revertref16_Table_Skip (t0 : Option Addr) (next1 : Int) (R : Ending → World → Prop) (w : World) : Prop :=
 ptrW t0 fun a6 =>
 ∃ n8 : Int, w.cell? (a6.add 1) = some (.int .u32 n8) ∧
 bcase (decide (next1 > n8)) (
  ptrW t0 fun a12 =>
  (∃ old, w.cell? ((a12.add 1).add 0) = some old) ∧ w.frozen? ((a12.add 1).add 0) = false ∧
  letW (w.setCell ((a12.add 1).add 0) (.int .u32 next1)) fun u0 =>
  R (.returned (.tuple ⟨[]⟩)) u0)
 (R (.returned (.tuple ⟨[]⟩)) w)
def plan_revertref16_Table_Skip : Plan := { loops := fun i => match i with | _ => ([], []), cuts := fun i => match i with | _ => none, head := fun i => match i with | _ => none, rng := fun i => match i with | _ => [] }
theorem ok_revertref16_Table_Skip {t0 : Option Addr} {next1 : Int} {R : Ending → World → Prop} {w : World} (h : V_revertref16_Table_Skip t0 next1 R w) : Calls P F.«revertref16_Table_Skip» ⟨[.pointer t0, .int .u32 next1]⟩ w R :=
  calls_of_vc tabOk bdOk mixed (fn := Try.f33) (c := bodyOf Try.f33) (pl := plan_revertref16_Table_Skip) Try.func33 (by kernel_rfl) (Nat.le_of_ble_eq_true (by kernel_rfl)) (by kernel_rfl)
    (Eq.mp (show V_revertref16_Table_Skip t0 next1 R w = vcFun P Tb Bd plan_revertref16_Table_Skip (raw Try.f33.ntmps) Try.f33.results.toList (bodyOf Try.f33) [.pointer t0, .int .u32 next1] R w by kernel_rfl) h)

def V_dedup_Table_Get (t0 : Option Addr) (id1 : Int) (R : Ending → World → Prop) (w : World) : Prop :=
 Calls P F.«dedup_Table_find» ⟨[.pointer t0, .int .u32 id1]⟩ w fun e13 w13 => ∃ s13_a_0 : ByteArray, ∃ n13_a_1 : Int, ∃ n13_a_2 : Int, ∃ n13_b : Int, e13 = .returned (.tuple ⟨[.agg ⟨[.string s13_a_0, .int .i64 n13_a_1, .int .i64 n13_a_2]⟩, .int .i64 n13_b]⟩) ∧
 letW (w13.alloc (.cells ⟨[(.string (bs [])), (.int .i64 0), (.int .i64 0)]⟩ T.«dedup_chunk»)) fun u0 =>
 (∃ old, u0.cell? ((⟨w13.heap.size, 0, none⟩ : Addr).add 0) = some old) ∧ u0.frozen? ((⟨w13.heap.size, 0, none⟩ : Addr).add 0) = false ∧
 letW (u0.setCell ((⟨w13.heap.size, 0, none⟩ : Addr).add 0) (.string s13_a_0)) fun u0_1 =>
 (∃ old, u0_1.cell? ((⟨w13.heap.size, 0, none⟩ : Addr).add 1) = some old) ∧ u0_1.frozen? ((⟨w13.heap.size, 0, none⟩ : Addr).add 1) = false ∧
 letW (u0_1.setCell ((⟨w13.heap.size, 0, none⟩ : Addr).add 1) (.int .i64 n13_a_1)) fun u0_2 =>
 (∃ old, u0_2.cell? ((⟨w13.heap.size, 0, none⟩ : Addr).add 2) = some old) ∧ u0_2.frozen? ((⟨w13.heap.size, 0, none⟩ : Addr).add 2) = false ∧
 letW (u0_2.setCell ((⟨w13.heap.size, 0, none⟩ : Addr).add 2) (.int .i64 n13_a_2)) fun u0_3 =>
 ∃ s17 : ByteArray, u0_3.cell? ((⟨w13.heap.size, 0, none⟩ : Addr).add 0) = some (.string s17) ∧
 ∃ n19 : Int, u0_3.cell? ((⟨w13.heap.size, 0, none⟩ : Addr).add 1) = some (.int .i64 n19) ∧
 ∃ n21 : Int, u0_3.cell? ((⟨w13.heap.size, 0, none⟩ : Addr).add 2) = some (.int .i64 n21) ∧
 ∀ wd2, Drew u0_3 wd2 →
 R (.returned (.tuple ⟨[.string s17, .int .i64 n19, .int .i64 n21, .bool (n13_b == 0)]⟩)) wd2
def plan_dedup_Table_Get : Plan := { loops := fun i => match i with | _ => ([], []), cuts := fun i => match i with | _ => none, head := fun i => match i with | 2 => some ([], [0, 1, 2, 3, 4, 5, 6, 7, 8, 9, 10, 11], []) | _ => none, rng := fun i => match i with | _ => [] }
theorem ok_dedup_Table_Get {t0 : Option Addr} {id1 : Int} {R : Ending → World → Prop} {w : World} (h : V_dedup_Table_Get t0 id1 R w) : Calls P F.«dedup_Table_Get» ⟨[.pointer t0, .int .u32 id1]⟩ w R :=
  calls_of_vc tabOk bdOk mixed (fn := Try.f34) (c := bodyOf Try.f34) (pl := plan_dedup_Table_Get) Try.func34 (by kernel_rfl) (Nat.le_of_ble_eq_true (by kernel_rfl)) (by kernel_rfl)
    (Eq.mp (show V_dedup_Table_Get t0 id1 R w = vcFun P Tb Bd plan_dedup_Table_Get (raw Try.f34.ntmps) Try.f34.results.toList (bodyOf Try.f34) [.pointer t0, .int .u32 id1] R w by kernel_rfl) h)

def V_revertref16_Table_At (t0 : Option Addr) (id1 : Int) (R : Ending → World → Prop) (w : World) : Prop :=
 ∃ (I2 : Tup [(5, (.int .i64))] → World → Prop) (μ2 : Tup [(5, (.int .i64))] → World → Nat), I2 (0, ()) w ∧
 ∀ (junk2 : St) (n5 : Int) (wL2 : World), I2 (n5, ()) wL2 →
 ptrW t0 fun a8 =>
 ∃ (a10 : Option Addr) (l10 c10 : Nat), wL2.cell? (a8.add 0) = some (.slice a10 l10 c10) ∧
 bcase (decide (n5 < (l10 : Int))) (
  ptrW t0 fun a16 =>
  ∃ (a18 : Option Addr) (l18 c18 : Nat), wL2.cell? (a16.add 0) = some (.slice a18 l18 c18) ∧
  (0 ≤ n5 ∧ n5 < (l18 : Int)) ∧
  ptrW a18 fun a20 =>
  ∃ n22 : Int, wL2.cell? ((a20.add (n5.toNat * 4)).add 0) = some (.int .u32 n22) ∧
  bcase (n22 == id1) (
   R (.returned (.int .i64 n5)) wL2)
  (I2 ((IntKind.wrap .i64 (n5 + 1)), ()) wL2 ∧ μ2 ((IntKind.wrap .i64 (n5 + 1)), ()) wL2 < μ2 (n5, ()) wL2))
 (R (.returned (.int .i64 (-1))) wL2)
def plan_revertref16_Table_At : Plan := { loops := fun i => match i with | 32 => ([(5, (.int .i64))], [4, 5, 6, 7, 8, 9, 10, 11, 12, 13, 14, 15, 16, 17, 18, 19, 20, 21, 22, 23, 24, 25]) | _ => ([], []), cuts := fun i => match i with | _ => none, head := fun i => match i with | _ => none, rng := fun i => match i with | _ => [] }
theorem ok_revertref16_Table_At {t0 : Option Addr} {id1 : Int} {R : Ending → World → Prop} {w : World} (h : V_revertref16_Table_At t0 id1 R w) : Calls P F.«revertref16_Table_At» ⟨[.pointer t0, .int .u32 id1]⟩ w R :=
  calls_of_vc tabOk bdOk mixed (fn := Try.f35) (c := bodyOf Try.f35) (pl := plan_revertref16_Table_At) Try.func35 (by kernel_rfl) (Nat.le_of_ble_eq_true (by kernel_rfl)) (by kernel_rfl)
    (Eq.mp (show V_revertref16_Table_At t0 id1 R w = vcFun P Tb Bd plan_revertref16_Table_At (raw Try.f35.ntmps) Try.f35.results.toList (bodyOf Try.f35) [.pointer t0, .int .u32 id1] R w by kernel_rfl) h)

def V_revertref16_Table_Find (t0 : Option Addr) (data1 : ByteArray) (R : Ending → World → Prop) (w : World) : Prop :=
 ∃ (I2 : Tup [(5, (.int .i64))] → World → Prop) (μ2 : Tup [(5, (.int .i64))] → World → Nat), I2 (0, ()) w ∧
 ∀ (junk2 : St) (n5 : Int) (wL2 : World), I2 (n5, ()) wL2 →
 ptrW t0 fun a8 =>
 ∃ (a10 : Option Addr) (l10 c10 : Nat), wL2.cell? (a8.add 0) = some (.slice a10 l10 c10) ∧
 bcase (decide (n5 < (l10 : Int))) (
  ptrW t0 fun a16 =>
  ∃ (a18 : Option Addr) (l18 c18 : Nat), wL2.cell? (a16.add 0) = some (.slice a18 l18 c18) ∧
  (0 ≤ n5 ∧ n5 < (l18 : Int)) ∧
  ptrW a18 fun a20 =>
  ∃ s22 : ByteArray, wL2.cell? ((a20.add (n5.toNat * 4)).add 1) = some (.string s22) ∧
  bcase (s22.toList == data1.toList) (
   R (.returned (.int .i64 n5)) wL2)
  (I2 ((IntKind.wrap .i64 (n5 + 1)), ()) wL2 ∧ μ2 ((IntKind.wrap .i64 (n5 + 1)), ()) wL2 < μ2 (n5, ()) wL2))
 (R (.returned (.int .i64 (-1))) wL2)
def plan_revertref16_Table_Find : Plan := { loops := fun i => match i with | 32 => ([(5, (.int .i64))], [4, 5, 6, 7, 8, 9, 10, 11, 12, 13, 14, 15, 16, 17, 18, 19, 20, 21, 22, 23, 24, 25]) | _ => ([], []), cuts := fun i => match i with | _ => none, head := fun i => match i with | _ => none, rng := fun i => match i with | _ => [] }
theorem ok_revertref16_Table_Find {t0 : Option Addr} {data1 : ByteArray} {R : Ending → World → Prop} {w : World} (h : V_revertref16_Table_Find t0 data1 R w) : Calls P F.«revertref16_Table_Find» ⟨[.pointer t0, .string data1]⟩ w R :=
  calls_of_vc tabOk bdOk mixed (fn := Try.f36) (c := bodyOf Try.f36) (pl := plan_revertref16_Table_Find) Try.func36 (by kernel_rfl) (Nat.le_of_ble_eq_true (by kernel_rfl)) (by kernel_rfl)
    (Eq.mp (show V_revertref16_Table_Find t0 data1 R w = vcFun P Tb Bd plan_revertref16_Table_Find (raw Try.f36.ntmps) Try.f36.results.toList (bodyOf Try.f36) [.pointer t0, .string data1] R w by kernel_rfl) h)

def V_dedup_Table_Find (t0 : Option Addr) (data1 : ByteArray) (R : Ending → World → Prop) (w : World) : Prop :=
 Calls P F.«dedup_Table_is» ⟨[.pointer t0]⟩ w fun e9 w9 => ∃ b9 : Bool, e9 = .returned (.bool b9) ∧
 bcase (!b9) (
  R (.returned (.tuple ⟨[.int .u32 0, .bool false]⟩)) w9)
 (ptrW t0 fun a12 =>
  ∃ p14 : Option Addr, w9.cell? (a12.add 1) = some (.pointer p14) ∧
  Calls P F.«hash_Index_Find» ⟨[.pointer p14, .string data1]⟩ w9 fun e16 w16 => ∃ (a16 : Option Addr) (l16 c16 : Nat), e16 = .returned (.slice a16 l16 c16) ∧
  ∃ (I4 : Tup [(18, (.int .i64))] → World → Prop) (μ4 : Tup [(18, (.int .i64))] → World → Nat), I4 (0, ()) w16 ∧
  ∀ (junk4 : St) (n18 : Int) (wL4 : World), I4 (n18, ()) wL4 →
  bcase (decide (n18 < (l16 : Int))) (
   (0 ≤ n18 ∧ n18 < (l16 : Int)) ∧
   ptrW a16 fun a20 =>
   ∃ n21 : Int, wL4.cell? (a20.add (n18.toNat * 1)) = some (.int .u32 n21) ∧
   ptrW t0 fun a23 =>
   ∃ m25 : Option Nat, wL4.cell? (a23.add 0) = some (.map m25) ∧
   ∃ es27 : List MapEntry, mapAt wL4 m25 es27 ∧ keysLike (.int .u32 n21) es27 ∧
   ∃ s27_0 : ByteArray, ∃ n27_1 : Int, ∃ n27_2 : Int, ∃ ok27 : Bool, mfind (.int .u32 n21) es27 = (if ok27 then some (.agg ⟨[.string s27_0, .int .i64 n27_1, .int .i64 n27_2]⟩) else none) ∧ (ok27 = false → (.agg ⟨[.string s27_0, .int .i64 n27_1, .int .i64 n27_2]⟩ : Value) = .agg ⟨[.string (bs []), .int .i64 0, .int .i64 0]⟩) ∧
   bcase (s27_0.toList == data1.toList) (
    R (.returned (.tuple ⟨[.int .u32 n21, .bool true]⟩)) wL4)
   (I4 ((IntKind.wrap .i64 (n18 + 1)), ()) wL4 ∧ μ4 ((IntKind.wrap .i64 (n18 + 1)), ()) wL4 < μ4 (n18, ()) wL4))
  (R (.returned (.tuple ⟨[.int .u32 0, .bool false]⟩)) wL4))
def plan_dedup_Table_Find : Plan := { loops := fun i => match i with | 64 => ([(18, (.int .i64))], [4, 5, 7, 18, 19, 20, 21, 22, 23, 24, 25, 26, 27, 28, 29, 30, 31, 32]) | _ => ([], []), cuts := fun i => match i with | _ => none, head := fun i => match i with | _ => none, rng := fun i => match i with | _ => [] }
theorem ok_dedup_Table_Find {t0 : Option Addr} {data1 : ByteArray} {R : Ending → World → Prop} {w : World} (h : V_dedup_Table_Find t0 data1 R w) : Calls P F.«dedup_Table_Find» ⟨[.pointer t0, .string data1]⟩ w R :=
  calls_of_vc tabOk bdOk mixed (fn := Try.f37) (c := bodyOf Try.f37) (pl := plan_dedup_Table_Find) Try.func37 (by kernel_rfl) (Nat.le_of_ble_eq_true (by kernel_rfl)) (by kernel_rfl)
    (Eq.mp (show V_dedup_Table_Find t0 data1 R w = vcFun P Tb Bd plan_dedup_Table_Find (raw Try.f37.ntmps) Try.f37.results.toList (bodyOf Try.f37) [.pointer t0, .string data1] R w by kernel_rfl) h)

def V_dedup_Table_Next (t0 : Option Addr) (R : Ending → World → Prop) (w : World) : Prop :=
 Calls P F.«dedup_Table_is» ⟨[.pointer t0]⟩ w fun e4 w4 => ∃ b4 : Bool, e4 = .returned (.bool b4) ∧
 bcase (!b4) (
  R (.returned (.int .u32 0)) w4)
 (ptrW t0 fun a7 =>
  ∃ n9 : Int, w4.cell? (a7.add 2) = some (.int .u32 n9) ∧
  R (.returned (.int .u32 n9)) w4)
def plan_dedup_Table_Next : Plan := { loops := fun i => match i with | _ => ([], []), cuts := fun i => match i with | _ => none, head := fun i => match i with | _ => none, rng := fun i => match i with | _ => [] }
theorem ok_dedup_Table_Next {t0 : Option Addr} {R : Ending → World → Prop} {w : World} (h : V_dedup_Table_Next t0 R w) : Calls P F.«dedup_Table_Next» ⟨[.pointer t0]⟩ w R :=
  calls_of_vc tabOk bdOk mixed (fn := Try.f38) (c := bodyOf Try.f38) (pl := plan_dedup_Table_Next) Try.func38 (by kernel_rfl) (Nat.le_of_ble_eq_true (by kernel_rfl)) (by kernel_rfl)
    (Eq.mp (show V_dedup_Table_Next t0 R w = vcFun P Tb Bd plan_dedup_Table_Next (raw Try.f38.ntmps) Try.f38.results.toList (bodyOf Try.f38) [.pointer t0] R w by kernel_rfl) h)

def V_dedup_Table_All_1 (yield0 : Value) (c1 : Option Addr) (R : Ending → World → Prop) (w : World) : Prop :=
 ptrW c1 fun a5 =>
 ∃ p5 : Option Addr, w.cell? a5 = some (.pointer p5) ∧
 Calls P F.«dedup_Table_is» ⟨[.pointer p5]⟩ w fun e6 w6 => ∃ b6 : Bool, e6 = .returned (.bool b6) ∧
 bcase (!b6) (
  R (.returned (.tuple ⟨[]⟩)) w6)
 (ptrW c1 fun a8 =>
  ∃ p8 : Option Addr, w6.cell? a8 = some (.pointer p8) ∧
  ptrW p8 fun a9 =>
  ∃ m11 : Option Nat, w6.cell? (a9.add 0) = some (.map m11) ∧
  Calls P F.«maps_Keys_map_uint32_dedup_chunk_uint32_dedup_chunk» ⟨[.map m11]⟩ w6 fun e12 w12 => ∃ v12 : Value, e12 = .returned (v12) ∧
  Calls P F.«slices_Sorted_uint32» ⟨[v12]⟩ w12 fun e13 w13 => ∃ (a13 : Option Addr) (l13 c13 : Nat), e13 = .returned (.slice a13 l13 c13) ∧
  ∃ (I2 : Tup [(15, (.int .i64))] → World → Prop) (μ2 : Tup [(15, (.int .i64))] → World → Nat), I2 (0, ()) w13 ∧
  ∀ (junk2 : St) (n15 : Int) (wL2 : World), I2 (n15, ()) wL2 →
  bcase (decide (n15 < (l13 : Int))) (
   (0 ≤ n15 ∧ n15 < (l13 : Int)) ∧
   ptrW a13 fun a17 =>
   ∃ n18 : Int, wL2.cell? (a17.add (n15.toNat * 1)) = some (.int .u32 n18) ∧
   callV P Bd yield0 [.int .u32 n18] wL2 fun e21 w21 => ∃ b21 : Bool, e21 = .returned (.bool b21) ∧
   bcase (!b21) (
    R (.returned (.tuple ⟨[]⟩)) w21)
   (I2 ((IntKind.wrap .i64 (n15 + 1)), ()) w21 ∧ μ2 ((IntKind.wrap .i64 (n15 + 1)), ()) w21 < μ2 (n15, ()) wL2))
  (R (.returned (.tuple ⟨[]⟩)) wL2))
def plan_dedup_Table_All_1 : Plan := { loops := fun i => match i with | 32 => ([(15, (.int .i64))], [4, 15, 16, 17, 18, 19, 20, 21, 22, 23]) | _ => ([], []), cuts := fun i => match i with | _ => none, head := fun i => match i with | _ => none, rng := fun i => match i with | _ => [] }
theorem ok_dedup_Table_All_1 {yield0 : Value} {c1 : Option Addr} {R : Ending → World → Prop} {w : World} (h : V_dedup_Table_All_1 yield0 c1 R w) : Calls P F.«dedup_Table_All_1» ⟨[yield0, .pointer c1]⟩ w R :=
  calls_of_vc tabOk bdOk mixed (fn := Try.f39) (c := bodyOf Try.f39) (pl := plan_dedup_Table_All_1) Try.func39 (by kernel_rfl) (Nat.le_of_ble_eq_true (by kernel_rfl)) (by kernel_rfl)
    (Eq.mp (show V_dedup_Table_All_1 yield0 c1 R w = vcFun P Tb Bd plan_dedup_Table_All_1 (raw Try.f39.ntmps) Try.f39.results.toList (bodyOf Try.f39) [yield0, .pointer c1] R w by kernel_rfl) h)

def V_slices_Sorted_uint32 (seq0 : Value) (R : Ending → World → Prop) (w : World) : Prop :=
 Calls P F.«slices_Collect_uint32» ⟨[seq0]⟩ w fun e5 w5 => ∃ (a5 : Option Addr) (l5 c5 : Nat), e5 = .returned (.slice a5 l5 c5) ∧
 Calls P F.«slices_Sort_sl_uint32_uint32» ⟨[.slice a5 l5 c5]⟩ w5 fun e7 w7 => e7 = .returned (.tuple ⟨[]⟩) ∧
 R (.returned (.slice a5 l5 c5)) w7
def plan_slices_Sorted_uint32 : Plan := { loops := fun i => match i with | _ => ([], []), cuts := fun i => match i with | _ => none, head := fun i => match i with | _ => none, rng := fun i => match i with | _ => [] }
theorem ok_slices_Sorted_uint32 {seq0 : Value} {R : Ending → World → Prop} {w : World} (h : V_slices_Sorted_uint32 seq0 R w) : Calls P F.«slices_Sorted_uint32» ⟨[seq0]⟩ w R :=
  calls_of_vc tabOk bdOk mixed (fn := Try.f40) (c := bodyOf Try.f40) (pl := plan_slices_Sorted_uint32) Try.func40 (by kernel_rfl) (Nat.le_of_ble_eq_true (by kernel_rfl)) (by kernel_rfl)
    (Eq.mp (show V_slices_Sorted_uint32 seq0 R w = vcFun P Tb Bd plan_slices_Sorted_uint32 (raw Try.f40.ntmps) Try.f40.results.toList (bodyOf Try.f40) [seq0] R w by kernel_rfl) h)

def V_maps_Keys_map_uint32_dedup_chunk_uint32_dedup_chunk (m0 : Option Nat) (R : Ending → World → Prop) (w : World) : Prop :=
 letW (w.alloc (.cells ⟨[.map m0]⟩ T.«m_u32_dedup_chunk»)) fun u0 =>
 R (.returned (.func (.func F.«maps_Keys_map_uint32_dedup_chunk_uint32_dedup_chunk_1») ⟨[]⟩ ⟨[.pointer (some ⟨w.heap.size, 0, none⟩)]⟩)) u0
def plan_maps_Keys_map_uint32_dedup_chunk_uint32_dedup_chunk : Plan := { loops := fun i => match i with | _ => ([], []), cuts := fun i => match i with | _ => none, head := fun i => match i with | _ => none, rng := fun i => match i with | _ => [] }
theorem ok_maps_Keys_map_uint32_dedup_chunk_uint32_dedup_chunk {m0 : Option Nat} {R : Ending → World → Prop} {w : World} (h : V_maps_Keys_map_uint32_dedup_chunk_uint32_dedup_chunk m0 R w) : Calls P F.«maps_Keys_map_uint32_dedup_chunk_uint32_dedup_chunk» ⟨[.map m0]⟩ w R :=
  calls_of_vc tabOk bdOk mixed (fn := Try.f41) (c := bodyOf Try.f41) (pl := plan_maps_Keys_map_uint32_dedup_chunk_uint32_dedup_chunk) Try.func41 (by kernel_rfl) (Nat.le_of_ble_eq_true (by kernel_rfl)) (by kernel_rfl)
    (Eq.mp (show V_maps_Keys_map_uint32_dedup_chunk_uint32_dedup_chunk m0 R w = vcFun P Tb Bd plan_maps_Keys_map_uint32_dedup_chunk_uint32_dedup_chunk (raw Try.f41.ntmps) Try.f41.results.toList (bodyOf Try.f41) [.map m0] R w by kernel_rfl) h)

def V_hash_Index_Add (x0 : Option Addr) (s1 : ByteArray) (id2 : Int) (R : Ending → World → Prop) (w : World) : Prop :=
 Calls P F.«hash_Index_is» ⟨[.pointer x0]⟩ w fun e9 w9 => ∃ b9 : Bool, e9 = .returned (.bool b9) ∧
 bcase (!b9) (
  R (.returned (.int .i64 1)) w9)
 (ptrW x0 fun a14 =>
  ∀ wd3, Drew w9 wd3 →
  Calls P F.«hash_Bucket» ⟨[.string s1]⟩ wd3 fun e13 w13 => ∃ n13 : Int, e13 = .returned (.int .u8 n13) ∧
  (0 ≤ n13 ∧ n13 < ((16 : Nat) : Int)) ∧
  ∃ (a19 : Option Addr) (l19 c19 : Nat), w13.cell? ((a14.add 1).add (n13.toNat * 1)) = some (.slice a19 l19 c19) ∧
  Calls P F.«slices_Contains_sl_uint32_uint32» ⟨[.slice a19 l19 c19, .int .u32 id2]⟩ w13 fun e21 w21 => ∃ b21 : Bool, e21 = .returned (.bool b21) ∧
  bcase b21 (
   R (.returned (.int .i64 6)) w21)
  (∃ (a25 : Option Addr) (l25 c25 : Nat), w21.cell? ((a14.add 1).add (n13.toNat * 1)) = some (.slice a25 l25 c25) ∧
   ∃ (a27 : Option Addr) (l27 c27 : Nat), ∃ w27, (Instr.buildSlice T.«l_u32» 1 ⟨[(0, .int .u32 id2)]⟩).run P w21 = .ok (.slice a27 l27 c27) w27 ∧
   ∃ (a28 : Option Addr) (l28 c28 : Nat), ∃ w28, (Builtin.append_ ⟨[T.«l_u32», T.«l_u32»]⟩ T.«l_u32» ⟨[.slice a25 l25 c25, .slice a27 l27 c27]⟩).run P w27 = .ok (.slice a28 l28 c28) w28 ∧
   (∃ old, w28.cell? (((a14.add 1).add (n13.toNat * 1)).add 0) = some old) ∧ w28.frozen? (((a14.add 1).add (n13.toNat * 1)).add 0) = false ∧
   letW (w28.setCell (((a14.add 1).add (n13.toNat * 1)).add 0) (.slice a28 l28 c28)) fun u0 =>
   R (.returned (.int .i64 0)) u0))
def plan_hash_Index_Add : Plan := { loops := fun i => match i with | _ => ([], []), cuts := fun i => match i with | _ => none, head := fun i => match i with | 3 => some ([0, 3, 4], [1], [2, 5, 6]) | _ => none, rng := fun i => match i with | _ => [] }
theorem ok_hash_Index_Add {x0 : Option Addr} {s1 : ByteArray} {id2 : Int} {R : Ending → World → Prop} {w : World} (h : V_hash_Index_Add x0 s1 id2 R w) : Calls P F.«hash_Index_Add» ⟨[.pointer x0, .string s1, .int .u32 id2]⟩ w R :=
  calls_of_vc tabOk bdOk mixed (fn := Try.f42) (c := bodyOf Try.f42) (pl := plan_hash_Index_Add) Try.func42 (by kernel_rfl) (Nat.le_of_ble_eq_true (by kernel_rfl)) (by kernel_rfl)
    (Eq.mp (show V_hash_Index_Add x0 s1 id2 R w = vcFun P Tb Bd plan_hash_Index_Add (raw Try.f42.ntmps) Try.f42.results.toList (bodyOf Try.f42) [.pointer x0, .string s1, .int .u32 id2] R w by kernel_rfl) h)

def V_hash_Index_is (x0 : Option Addr) (R : Ending → World → Prop) (w : World) : Prop :=
 bcase (!(x0).isNone) (
  ptrW x0 fun a7 =>
  ∃ b9 : Bool, w.cell? (a7.add 0) = some (.bool b9) ∧
  R (.returned (.bool b9)) w)
 (R (.returned (.bool false)) w)
def plan_hash_Index_is : Plan := { loops := fun i => match i with | _ => ([], []), cuts := fun i => match i with | _ => none, head := fun i => match i with | _ => none, rng := fun i => match i with | _ => [] }
theorem ok_hash_Index_is {x0 : Option Addr} {R : Ending → World → Prop} {w : World} (h : V_hash_Index_is x0 R w) : Calls P F.«hash_Index_is» ⟨[.pointer x0]⟩ w R :=
  calls_of_vc tabOk bdOk mixed (fn := Try.f43) (c := bodyOf Try.f43) (pl := plan_hash_Index_is) Try.func43 (by kernel_rfl) (Nat.le_of_ble_eq_true (by kernel_rfl)) (by kernel_rfl)
    (Eq.mp (show V_hash_Index_is x0 R w = vcFun P Tb Bd plan_hash_Index_is (raw Try.f43.ntmps) Try.f43.results.toList (bodyOf Try.f43) [.pointer x0] R w by kernel_rfl) h)

def V_hash_Bucket (s0 : ByteArray) (R : Ending → World → Prop) (w : World) : Prop :=
 ∃ (I3 : Tup [(3, (.int .i64)), (9, (.int .i64))] → World → Prop) (μ3 : Tup [(3, (.int .i64)), (9, (.int .i64))] → World → Nat), I3 ((s0.size : Int), 0, ()) w ∧
 ∀ (junk3 : St) (n3 : Int) (n9 : Int) (wL3 : World), I3 (n3, n9, ()) wL3 →
 bcase (decide (n9 < (s0.size : Int))) (
  (0 ≤ n9 ∧ n9 < (s0.size : Int)) ∧
  (7 : Int) ≠ 0 ∧ I3 ((IntKind.wrap .i64 (n3 + (IntKind.wrap .i64 ((IntKind.wrap .i64 (bt s0 n9)) * (IntKind.wrap .i64 ((IntKind.wrap .i64 ((Int.tmod n9 7) * 2)) + 1)))))), (IntKind.wrap .i64 (n9 + 1)), ()) wL3 ∧ μ3 ((IntKind.wrap .i64 (n3 + (IntKind.wrap .i64 ((IntKind.wrap .i64 (bt s0 n9)) * (IntKind.wrap .i64 ((IntKind.wrap .i64 ((Int.tmod n9 7) * 2)) + 1)))))), (IntKind.wrap .i64 (n9 + 1)), ()) wL3 < μ3 (n3, n9, ()) wL3)
 ((16 : Int) ≠ 0 ∧ R (.returned (.int .u8 (IntKind.wrap .u8 (Int.tmod n3 16)))) wL3)
def plan_hash_Bucket : Plan := { loops := fun i => match i with | 48 => ([(3, (.int .i64)), (9, (.int .i64))], [3, 4, 9, 10, 11, 12, 13, 14, 15, 16, 17, 18, 19, 20, 21, 22, 23]) | _ => ([], []), cuts := fun i => match i with | _ => none, head := fun i => match i with | _ => none, rng := fun i => match i with | _ => [] }
theorem ok_hash_Bucket {s0 : ByteArray} {R : Ending → World → Prop} {w : World} (h : V_hash_Bucket s0 R w) : Calls P F.«hash_Bucket» ⟨[.string s0]⟩ w R :=
  calls_of_vc tabOk bdOk mixed (fn := Try.f44) (c := bodyOf Try.f44) (pl := plan_hash_Bucket) Try.func44 (by kernel_rfl) (Nat.le_of_ble_eq_true (by kernel_rfl)) (by kernel_rfl)
    (Eq.mp (show V_hash_Bucket s0 R w = vcFun P Tb Bd plan_hash_Bucket (raw Try.f44.ntmps) Try.f44.results.toList (bodyOf Try.f44) [.string s0] R w by kernel_rfl) h)

def V_slices_Index_sl_uint32_uint32 (s0 : Option Addr) (s0l s0c : Nat) (v1 : Int) (R : Ending → World → Prop) (w : World) : Prop :=
 ∃ (I2 : Tup [(8, (.int .i64))] → World → Prop) (μ2 : Tup [(8, (.int .i64))] → World → Nat), I2 (0, ()) w ∧
 ∀ (junk2 : St) (n8 : Int) (wL2 : World), I2 (n8, ()) wL2 →
 bcase (decide (n8 < (s0l : Int))) (
  (0 ≤ n8 ∧ n8 < (s0l : Int)) ∧
  ptrW s0 fun a14 =>
  ∃ n15 : Int, wL2.cell? (a14.add (n8.toNat * 1)) = some (.int .u32 n15) ∧
  bcase (v1 == n15) (
   R (.returned (.int .i64 n8)) wL2)
  (I2 ((IntKind.wrap .i64 (n8 + 1)), ()) wL2 ∧ μ2 ((IntKind.wrap .i64 (n8 + 1)), ()) wL2 < μ2 (n8, ()) wL2))
 (R (.returned (.int .i64 (-1))) wL2)
def plan_slices_Index_sl_uint32_uint32 : Plan := { loops := fun i => match i with | 32 => ([(8, (.int .i64))], [4, 5, 8, 9, 10, 11, 12, 13, 14, 15, 16, 17, 18]) | _ => ([], []), cuts := fun i => match i with | _ => none, head := fun i => match i with | _ => none, rng := fun i => match i with | _ => [] }
theorem ok_slices_Index_sl_uint32_uint32 {s0 : Option Addr} {s0l s0c : Nat} {v1 : Int} {R : Ending → World → Prop} {w : World} (h : V_slices_Index_sl_uint32_uint32 s0 s0l s0c v1 R w) : Calls P F.«slices_Index_sl_uint32_uint32» ⟨[.slice s0 s0l s0c, .int .u32 v1]⟩ w R :=
  calls_of_vc tabOk bdOk mixed (fn := Try.f45) (c := bodyOf Try.f45) (pl := plan_slices_Index_sl_uint32_uint32) Try.func45 (by kernel_rfl) (Nat.le_of_ble_eq_true (by kernel_rfl)) (by kernel_rfl)
    (Eq.mp (show V_slices_Index_sl_uint32_uint32 s0 s0l s0c v1 R w = vcFun P Tb Bd plan_slices_Index_sl_uint32_uint32 (raw Try.f45.ntmps) Try.f45.results.toList (bodyOf Try.f45) [.slice s0 s0l s0c, .int .u32 v1] R w by kernel_rfl) h)

def V_slices_Delete_sl_uint32_uint32 (s0 : Option Addr) (s0l s0c : Nat) (i1 : Int) (j2 : Int) (R : Ending → World → Prop) (w : World) : Prop :=
 (0 ≤ i1 ∧ i1 ≤ j2 ∧ j2 ≤ (s0l : Int) ∧ (s0l : Int) ≤ (s0c : Int)) ∧
 bcase (i1 == j2) (
  R (.returned (.slice s0 s0l s0c)) w)
 ((0 ≤ (0 : Int) ∧ (0 : Int) ≤ i1 ∧ i1 ≤ (s0c : Int) ∧ (s0c : Int) ≤ (s0c : Int)) ∧
  (0 ≤ j2 ∧ j2 ≤ (s0l : Int) ∧ (s0l : Int) ≤ (s0c : Int) ∧ (s0c : Int) ≤ (s0c : Int)) ∧
  ∀ wd5, Drew w wd5 →
  ∃ (a26 : Option Addr) (l26 c26 : Nat), ∃ w26, (Builtin.append_ ⟨[T.«l_u32», T.«l_u32»]⟩ T.«l_u32» ⟨[.slice (if (s0c : Int).toNat = (0 : Int).toNat then s0 else s0.map (·.add ((0 : Int).toNat * 1))) (i1.toNat - (0 : Int).toNat) ((s0c : Int).toNat - (0 : Int).toNat), .slice (if (s0c : Int).toNat = j2.toNat then s0 else s0.map (·.add (j2.toNat * 1))) ((s0l : Int).toNat - j2.toNat) ((s0c : Int).toNat - j2.toNat)]⟩).run P wd5 = .ok (.slice a26 l26 c26) w26 ∧
  (0 ≤ (l26 : Int) ∧ (l26 : Int) ≤ (s0l : Int) ∧ (s0l : Int) ≤ (c26 : Int) ∧ (c26 : Int) ≤ (c26 : Int)) ∧
  ∃ wx5, (Builtin.clear_ ⟨[T.«l_u32»]⟩ T.«tup_» ⟨[.slice (if (c26 : Int).toNat = (l26 : Int).toNat then a26 else a26.map (·.add ((l26 : Int).toNat * 1))) ((s0l : Int).toNat - (l26 : Int).toNat) ((c26 : Int).toNat - (l26 : Int).toNat)]⟩).run P w26 = .ok (.tuple ⟨[]⟩) wx5 ∧
  R (.returned (.slice a26 l26 c26)) wx5)
def plan_slices_Delete_sl_uint32_uint32 : Plan := { loops := fun i => match i with | _ => ([], []), cuts := fun i => match i with | _ => none, head := fun i => match i with | 5 => some ([], [0, 1, 2, 3, 4, 5], [6, 7]) | _ => none, rng := fun i => match i with | _ => [] }
theorem ok_slices_Delete_sl_uint32_uint32 {s0 : Option Addr} {s0l s0c : Nat} {i1 : Int} {j2 : Int} {R : Ending → World → Prop} {w : World} (h : V_slices_Delete_sl_uint32_uint32 s0 s0l s0c i1 j2 R w) : Calls P F.«slices_Delete_sl_uint32_uint32» ⟨[.slice s0 s0l s0c, .int .i64 i1, .int .i64 j2]⟩ w R :=
  calls_of_vc tabOk bdOk mixed (fn := Try.f46) (c := bodyOf Try.f46) (pl := plan_slices_Delete_sl_uint32_uint32) Try.func46 (by kernel_rfl) (Nat.le_of_ble_eq_true (by kernel_rfl)) (by kernel_rfl)
    (Eq.mp (show V_slices_Delete_sl_uint32_uint32 s0 s0l s0c i1 j2 R w = vcFun P Tb Bd plan_slices_Delete_sl_uint32_uint32 (raw Try.f46.ntmps) Try.f46.results.toList (bodyOf Try.f46) [.slice s0 s0l s0c, .int .i64 i1, .int .i64 j2] R w by kernel_rfl) h)

def V_revertref16_Table_put (t0 : Option Addr) (x1_0 : Int) (x1_1 : ByteArray) (x1_2 : Int) (x1_3 : Int) (R : Ending → World → Prop) (w : World) : Prop :=
 letW (w.alloc (.cells ⟨[.int .u32 x1_0, .string x1_1, .int .i64 x1_2, .int .i64 x1_3]⟩ T.«revertref16_Chunk»)) fun u0 =>
 ∃ J4 : Tup [(4, (.int .i64))] → World → Prop, (∃ (I2 : Tup [(4, (.int .i64))] → World → Prop) (μ2 : Tup [(4, (.int .i64))] → World → Nat), I2 (0, ()) u0 ∧
  ∀ (junk2 : St) (n4 : Int) (wL2 : World), I2 (n4, ()) wL2 →
  ptrW t0 fun a8 =>
  ∃ (a10 : Option Addr) (l10 c10 : Nat), wL2.cell? (a8.add 0) = some (.slice a10 l10 c10) ∧
  bcase (decide (n4 < (l10 : Int))) (
   ptrW t0 fun a15 =>
   ∃ (a17 : Option Addr) (l17 c17 : Nat), wL2.cell? (a15.add 0) = some (.slice a17 l17 c17) ∧
   (0 ≤ n4 ∧ n4 < (l17 : Int)) ∧
   ptrW a17 fun a19 =>
   ∃ n21 : Int, wL2.cell? ((a19.add (n4.toNat * 4)).add 0) = some (.int .u32 n21) ∧
   ∃ n23 : Int, wL2.cell? ((⟨w.heap.size, 0, none⟩ : Addr).add 0) = some (.int .u32 n23) ∧
   ∀ wd2, Drew wL2 wd2 →
   bcase (decide (n21 < n23)) (
    I2 ((IntKind.wrap .i64 (n4 + 1)), ()) wd2 ∧ μ2 ((IntKind.wrap .i64 (n4 + 1)), ()) wd2 < μ2 (n4, ()) wL2)
   (J4 (n4, ()) wd2))
  (∀ wd2, Drew wL2 wd2 →
   J4 (n4, ()) wd2)) ∧
 ∀ (junk4 : St) (n4_1 : Int) (wJ4 : World), J4 (n4_1, ()) wJ4 →
 ptrW t0 fun a30 =>
 ∃ (a32 : Option Addr) (l32 c32 : Nat), wJ4.cell? (a30.add 0) = some (.slice a32 l32 c32) ∧
 (0 ≤ (0 : Int) ∧ (0 : Int) ≤ n4_1 ∧ n4_1 ≤ (c32 : Int) ∧ (c32 : Int) ≤ (c32 : Int)) ∧
 ∃ (a35 : Option Addr) (l35 c35 : Nat), ∃ w35, (Builtin.append_ ⟨[T.«l_revertref16_Chunk», T.«l_revertref16_Chunk»]⟩ T.«l_revertref16_Chunk» ⟨[.slice none 0 0, .slice (if (c32 : Int).toNat = (0 : Int).toNat then a32 else a32.map (·.add ((0 : Int).toNat * 4))) (n4_1.toNat - (0 : Int).toNat) ((c32 : Int).toNat - (0 : Int).toNat)]⟩).run P wJ4 = .ok (.slice a35 l35 c35) w35 ∧
 ∃ n37_0 : Int, ∃ s37_1 : ByteArray, ∃ n37_2 : Int, ∃ n37_3 : Int, (w35.cell? ((⟨w.heap.size, 0, none⟩ : Addr).add 0) = some (.int .u32 n37_0) ∧ w35.cell? ((⟨w.heap.size, 0, none⟩ : Addr).add 1) = some (.string s37_1) ∧ w35.cell? ((⟨w.heap.size, 0, none⟩ : Addr).add 2) = some (.int .i64 n37_2) ∧ w35.cell? ((⟨w.heap.size, 0, none⟩ : Addr).add 3) = some (.int .i64 n37_3) ∧ True) ∧
 ∃ (a38 : Option Addr) (l38 c38 : Nat), ∃ w38, (Instr.buildSlice T.«l_revertref16_Chunk» 1 ⟨[(0, .agg ⟨[.int .u32 n37_0, .string s37_1, .int .i64 n37_2, .int .i64 n37_3]⟩)]⟩).run P w35 = .ok (.slice a38 l38 c38) w38 ∧
 ∃ (a39 : Option Addr) (l39 c39 : Nat), ∃ w39, (Builtin.append_ ⟨[T.«l_revertref16_Chunk», T.«l_revertref16_Chunk»]⟩ T.«l_revertref16_Chunk» ⟨[.slice a35 l35 c35, .slice a38 l38 c38]⟩).run P w38 = .ok (.slice a39 l39 c39) w39 ∧
 ptrW t0 fun a43 =>
 ∃ (a45 : Option Addr) (l45 c45 : Nat), w39.cell? (a43.add 0) = some (.slice a45 l45 c45) ∧
 (0 ≤ n4_1 ∧ n4_1 ≤ (l45 : Int) ∧ (l45 : Int) ≤ (c45 : Int) ∧ (c45 : Int) ≤ (c45 : Int)) ∧
 ∃ (a48 : Option Addr) (l48 c48 : Nat), ∃ w48, (Builtin.append_ ⟨[T.«l_revertref16_Chunk», T.«l_revertref16_Chunk»]⟩ T.«l_revertref16_Chunk» ⟨[.slice a39 l39 c39, .slice (if (c45 : Int).toNat = n4_1.toNat then a45 else a45.map (·.add (n4_1.toNat * 4))) ((l45 : Int).toNat - n4_1.toNat) ((c45 : Int).toNat - n4_1.toNat)]⟩).run P w39 = .ok (.slice a48 l48 c48) w48 ∧
 ptrW t0 fun a49 =>
 (∃ old, w48.cell? ((a49.add 0).add 0) = some old) ∧ w48.frozen? ((a49.add 0).add 0) = false ∧
 letW (w48.setCell ((a49.add 0).add 0) (.slice a48 l48 c48)) fun u0_1 =>
 ∃ n52 : Int, u0_1.cell? ((⟨w.heap.size, 0, none⟩ : Addr).add 0) = some (.int .u32 n52) ∧
 ptrW t0 fun a54 =>
 ∃ n56 : Int, u0_1.cell? (a54.add 1) = some (.int .u32 n56) ∧
 ∀ wd8, Drew u0_1 wd8 →
 bcase (decide (n52 ≥ n56)) (
  ∃ n60 : Int, wd8.cell? ((⟨w.heap.size, 0, none⟩ : Addr).add 0) = some (.int .u32 n60) ∧
  ptrW t0 fun a62 =>
  (∃ old, wd8.cell? ((a62.add 1).add 0) = some old) ∧ wd8.frozen? ((a62.add 1).add 0) = false ∧
  letW (wd8.setCell ((a62.add 1).add 0) (.int .u32 (IntKind.wrap .u32 (n60 + 1)))) fun u0_2 =>
  R (.returned (.tuple ⟨[]⟩)) u0_2)
 (R (.returned (.tuple ⟨[]⟩)) wd8)
def plan_revertref16_Table_put : Plan := { loops := fun i => match i with | 32 => ([(4, (.int .i64))], [4, 6, 7, 8, 9, 10, 11, 12, 13, 14, 15, 16, 17, 18, 19, 20, 21, 22, 23, 24, 25, 26, 27]) | _ => ([], []), cuts := fun i => match i with | 4 => some ([(4, (.int .i64))], [4, 6, 7, 8, 9, 10, 11, 12, 13, 14, 15, 16, 17, 18, 19, 20, 21, 22, 23, 24, 25, 26, 27]) | _ => none, head := fun i => match i with | 2 => some ([], [0, 1, 2, 3, 4, 5, 6, 7, 8, 9, 10, 11, 12, 13, 14, 15, 16, 17, 18, 19], []) | 8 => some ([], [0, 1, 2, 3, 4, 5, 6], []) | _ => none, rng := fun i => match i with | _ => [] }
theorem ok_revertref16_Table_put {t0 : Option Addr} {x1_0 : Int} {x1_1 : ByteArray} {x1_2 : Int} {x1_3 : Int} {R : Ending → World → Prop} {w : World} (h : V_revertref16_Table_put t0 x1_0 x1_1 x1_2 x1_3 R w) : Calls P F.«revertref16_Table_put» ⟨[.pointer t0, .agg ⟨[.int .u32 x1_0, .string x1_1, .int .i64 x1_2, .int .i64 x1_3]⟩]⟩ w R :=
  calls_of_vc tabOk bdOk mixed (fn := Try.f47) (c := bodyOf Try.f47) (pl := plan_revertref16_Table_put) Try.func47 (by kernel_rfl) (Nat.le_of_ble_eq_true (by kernel_rfl)) (by kernel_rfl)
    (Eq.mp (show V_revertref16_Table_put t0 x1_0 x1_1 x1_2 x1_3 R w = vcFun P Tb Bd plan_revertref16_Table_put (raw Try.f47.ntmps) Try.f47.results.toList (bodyOf Try.f47) [.pointer t0, .agg ⟨[.int .u32 x1_0, .string x1_1, .int .i64 x1_2, .int .i64 x1_3]⟩] R w by kernel_rfl) h)

def V_hash_Index_Find (x0 : Option Addr) (s1 : ByteArray) (R : Ending → World → Prop) (w : World) : Prop :=
 Calls P F.«hash_Index_is» ⟨[.pointer x0]⟩ w fun e6 w6 => ∃ b6 : Bool, e6 = .returned (.bool b6) ∧
 bcase (!b6) (
  R (.returned (.slice none 0 0)) w6)
 (∃ n10 : Int, qcall P F.«hash_Bucket» ⟨[.string s1]⟩ w6 (.int .u8 n10) ∧
  ptrW x0 fun a11 =>
  (0 ≤ n10 ∧ n10 < ((16 : Nat) : Int)) ∧
  ∃ (a14 : Option Addr) (l14 c14 : Nat), w6.cell? ((a11.add 1).add (n10.toNat * 1)) = some (.slice a14 l14 c14) ∧
  ∀ wd3, Drew w6 wd3 →
  Calls P F.«slices_Clone_sl_uint32_uint32» ⟨[.slice a14 l14 c14]⟩ wd3 fun e15 w15 => ∃ (a15 : Option Addr) (l15 c15 : Nat), e15 = .returned (.slice a15 l15 c15) ∧
  R (.returned (.slice a15 l15 c15)) w15)
def plan_hash_Index_Find : Plan := { loops := fun i => match i with | _ => ([], []), cuts := fun i => match i with | _ => none, head := fun i => match i with | 3 => some ([], [0, 1, 2, 3, 4, 5, 6], [7, 8]) | _ => none, rng := fun i => match i with | _ => [] }
theorem ok_hash_Index_Find {x0 : Option Addr} {s1 : ByteArray} {R : Ending → World → Prop} {w : World} (h : V_hash_Index_Find x0 s1 R w) : Calls P F.«hash_Index_Find» ⟨[.pointer x0, .string s1]⟩ w R :=
  calls_of_vc tabOk bdOk mixed (fn := Try.f48) (c := bodyOf Try.f48) (pl := plan_hash_Index_Find) Try.func48 (by kernel_rfl) (Nat.le_of_ble_eq_true (by kernel_rfl)) (by kernel_rfl)
    (Eq.mp (show V_hash_Index_Find x0 s1 R w = vcFun P Tb Bd plan_hash_Index_Find (raw Try.f48.ntmps) Try.f48.results.toList (bodyOf Try.f48) [.pointer x0, .string s1] R w by kernel_rfl) h)

def V_slices_Collect_uint32 (seq0 : Value) (R : Ending → World → Prop) (w : World) : Prop :=
 Calls P F.«slices_AppendSeq_sl_uint32_uint32» ⟨[.slice none 0 0, seq0]⟩ w fun e4 w4 => ∃ (a4 : Option Addr) (l4 c4 : Nat), e4 = .returned (.slice a4 l4 c4) ∧
 R (.returned (.slice a4 l4 c4)) w4
def plan_slices_Collect_uint32 : Plan := { loops := fun i => match i with | _ => ([], []), cuts := fun i => match i with | _ => none, head := fun i => match i with | _ => none, rng := fun i => match i with | _ => [] }
theorem ok_slices_Collect_uint32 {seq0 : Value} {R : Ending → World → Prop} {w : World} (h : V_slices_Collect_uint32 seq0 R w) : Calls P F.«slices_Collect_uint32» ⟨[seq0]⟩ w R :=
  calls_of_vc tabOk bdOk mixed (fn := Try.f49) (c := bodyOf Try.f49) (pl := plan_slices_Collect_uint32) Try.func49 (by kernel_rfl) (Nat.le_of_ble_eq_true (by kernel_rfl)) (by kernel_rfl)
    (Eq.mp (show V_slices_Collect_uint32 seq0 R w = vcFun P Tb Bd plan_slices_Collect_uint32 (raw Try.f49.ntmps) Try.f49.results.toList (bodyOf Try.f49) [seq0] R w by kernel_rfl) h)

def V_slices_Sort_sl_uint32_uint32 (x0 : Option Addr) (x0l x0c : Nat) (R : Ending → World → Prop) (w : World) : Prop :=
 Calls P F.«math_bits_Len» ⟨[.int .u64 (IntKind.wrap .u64 (x0l : Int))]⟩ w fun e9 w9 => ∃ n9 : Int, e9 = .returned (.int .i64 n9) ∧
 Calls P F.«slices_pdqsortOrdered_uint32» ⟨[.slice x0 x0l x0c, .int .i64 0, .int .i64 (x0l : Int), .int .i64 n9]⟩ w9 fun e10 w10 => e10 = .returned (.tuple ⟨[]⟩) ∧
 R (.returned (.tuple ⟨[]⟩)) w10
def plan_slices_Sort_sl_uint32_uint32 : Plan := { loops := fun i => match i with | _ => ([], []), cuts := fun i => match i with | _ => none, head := fun i => match i with | _ => none, rng := fun i => match i with | _ => [] }
theorem ok_slices_Sort_sl_uint32_uint32 {x0 : Option Addr} {x0l x0c : Nat} {R : Ending → World → Prop} {w : World} (h : V_slices_Sort_sl_uint32_uint32 x0 x0l x0c R w) : Calls P F.«slices_Sort_sl_uint32_uint32» ⟨[.slice x0 x0l x0c]⟩ w R :=
  calls_of_vc tabOk bdOk mixed (fn := Try.f50) (c := bodyOf Try.f50) (pl := plan_slices_Sort_sl_uint32_uint32) Try.func50 (by kernel_rfl) (Nat.le_of_ble_eq_true (by kernel_rfl)) (by kernel_rfl)
    (Eq.mp (show V_slices_Sort_sl_uint32_uint32 x0 x0l x0c R w = vcFun P Tb Bd plan_slices_Sort_sl_uint32_uint32 (raw Try.f50.ntmps) Try.f50.results.toList (bodyOf Try.f50) [.slice x0 x0l x0c] R w by kernel_rfl) h)

def V_maps_Keys_map_uint32_dedup_chunk_uint32_dedup_chunk_1 (yield0 : Value) (c1 : Option Addr) (R : Ending → World → Prop) (w : World) : Prop :=
 ptrW c1 fun a4 =>
 ∃ m4 : Option Nat, w.cell? a4 = some (.map m4) ∧
 ∃ p5 : Option Addr, ∃ w5, (Instr.range T.«m_u32_dedup_chunk» (.map m4)).run P w = .ok (.pointer p5) w5 ∧
 ∃ (I1 : Tup [] → World → Prop) (μ1 : Tup [] → World → Nat), I1 () w5 ∧
 ∀ (junk1 : St) (wL1 : World), I1 () wL1 →
 ∃ v6 w6, (Instr.next (.pointer p5) false T.«tup_»).run P wL1 = .ok v6 w6 ∧
 onTup v6 fun l7 => lgetW l7 0 fun v7 =>
 onBool v7 fun bc => bcase bc (
  ∃ v8 w8, (Instr.entry (.pointer p5)).run P w6 = .ok v8 w8 ∧
  onTup v8 fun l9 => lgetW l9 0 fun v9 =>
  callV P Bd yield0 [v9] w8 fun e12 w12 => ∃ b12 : Bool, e12 = .returned (.bool b12) ∧
  bcase (!b12) (
   R (.returned (.tuple ⟨[]⟩)) w12)
  (I1 () w12 ∧ μ1 () w12 < μ1 () wL1))
 (R (.returned (.tuple ⟨[]⟩)) w6)
def plan_maps_Keys_map_uint32_dedup_chunk_uint32_dedup_chunk_1 : Plan := { loops := fun i => match i with | 16 => ([], [3, 6, 7, 8, 9, 10, 11, 12, 13]) | _ => ([], []), cuts := fun i => match i with | _ => none, head := fun i => match i with | _ => none, rng := fun i => match i with | _ => [] }
theorem ok_maps_Keys_map_uint32_dedup_chunk_uint32_dedup_chunk_1 {yield0 : Value} {c1 : Option Addr} {R : Ending → World → Prop} {w : World} (h : V_maps_Keys_map_uint32_dedup_chunk_uint32_dedup_chunk_1 yield0 c1 R w) : Calls P F.«maps_Keys_map_uint32_dedup_chunk_uint32_dedup_chunk_1» ⟨[yield0, .pointer c1]⟩ w R :=
  calls_of_vc tabOk bdOk mixed (fn := Try.f51) (c := bodyOf Try.f51) (pl := plan_maps_Keys_map_uint32_dedup_chunk_uint32_dedup_chunk_1) Try.func51 (by kernel_rfl) (Nat.le_of_ble_eq_true (by kernel_rfl)) (by kernel_rfl)
    (Eq.mp (show V_maps_Keys_map_uint32_dedup_chunk_uint32_dedup_chunk_1 yield0 c1 R w = vcFun P Tb Bd plan_maps_Keys_map_uint32_dedup_chunk_uint32_dedup_chunk_1 (raw Try.f51.ntmps) Try.f51.results.toList (bodyOf Try.f51) [yield0, .pointer c1] R w by kernel_rfl) h)

def V_slices_Contains_sl_uint32_uint32 (s0 : Option Addr) (s0l s0c : Nat) (v1 : Int) (R : Ending → World → Prop) (w : World) : Prop :=
 Calls P F.«slices_Index_sl_uint32_uint32» ⟨[.slice s0 s0l s0c, .int .u32 v1]⟩ w fun e7 w7 => ∃ n7 : Int, e7 = .returned (.int .i64 n7) ∧
 R (.returned (.bool (decide (n7 ≥ 0)))) w7
def plan_slices_Contains_sl_uint32_uint32 : Plan := { loops := fun i => match i with | _ => ([], []), cuts := fun i => match i with | _ => none, head := fun i => match i with | _ => none, rng := fun i => match i with | _ => [] }
theorem ok_slices_Contains_sl_uint32_uint32 {s0 : Option Addr} {s0l s0c : Nat} {v1 : Int} {R : Ending → World → Prop} {w : World} (h : V_slices_Contains_sl_uint32_uint32 s0 s0l s0c v1 R w) : Calls P F.«slices_Contains_sl_uint32_uint32» ⟨[.slice s0 s0l s0c, .int .u32 v1]⟩ w R :=
  calls_of_vc tabOk bdOk mixed (fn := Try.f52) (c := bodyOf Try.f52) (pl := plan_slices_Contains_sl_uint32_uint32) Try.func52 (by kernel_rfl) (Nat.le_of_ble_eq_true (by kernel_rfl)) (by kernel_rfl)
    (Eq.mp (show V_slices_Contains_sl_uint32_uint32 s0 s0l s0c v1 R w = vcFun P Tb Bd plan_slices_Contains_sl_uint32_uint32 (raw Try.f52.ntmps) Try.f52.results.toList (bodyOf Try.f52) [.slice s0 s0l s0c, .int .u32 v1] R w by kernel_rfl) h)

def V_slices_Clone_sl_uint32_uint32 (s0 : Option Addr) (s0l s0c : Nat) (R : Ending → World → Prop) (w : World) : Prop :=
 bcase s0.isNone (
  R (.returned (.slice none 0 0)) w)
 (∃ (a5 : Option Addr) (l5 c5 : Nat), ∃ w5, (Instr.buildSlice T.«l_u32» 0 ⟨[]⟩).run P w = .ok (.slice a5 l5 c5) w5 ∧
  ∃ (a7 : Option Addr) (l7 c7 : Nat), ∃ w7, (Builtin.append_ ⟨[T.«l_u32», T.«l_u32»]⟩ T.«l_u32» ⟨[.slice a5 l5 c5, .slice s0 s0l s0c]⟩).run P w5 = .ok (.slice a7 l7 c7) w7 ∧
  R (.returned (.slice a7 l7 c7)) w7)
def plan_slices_Clone_sl_uint32_uint32 : Plan := { loops := fun i => match i with | _ => ([], []), cuts := fun i => match i with | _ => none, head := fun i => match i with | _ => none, rng := fun i => match i with | _ => [] }
theorem ok_slices_Clone_sl_uint32_uint32 {s0 : Option Addr} {s0l s0c : Nat} {R : Ending → World → Prop} {w : World} (h : V_slices_Clone_sl_uint32_uint32 s0 s0l s0c R w) : Calls P F.«slices_Clone_sl_uint32_uint32» ⟨[.slice s0 s0l s0c]⟩ w R :=
  calls_of_vc tabOk bdOk mixed (fn := Try.f53) (c := bodyOf Try.f53) (pl := plan_slices_Clone_sl_uint32_uint32) Try.func53 (by kernel_rfl) (Nat.le_of_ble_eq_true (by kernel_rfl)) (by kernel_rfl)
    (Eq.mp (show V_slices_Clone_sl_uint32_uint32 s0 s0l s0c R w = vcFun P Tb Bd plan_slices_Clone_sl_uint32_uint32 (raw Try.f53.ntmps) Try.f53.results.toList (bodyOf Try.f53) [.slice s0 s0l s0c] R w by kernel_rfl) h)

def V_slices_AppendSeq_sl_uint32_uint32 (s0 : Option Addr) (s0l s0c : Nat) (seq1 : Value) (R : Ending → World → Prop) (w : World) : Prop :=
 letW (w.alloc (.cells ⟨[.slice s0 s0l s0c]⟩ T.«l_u32»)) fun u0 =>
 onFunc seq1 fun gf first caps => bW (Bd gf) (∀ (y : Value) (rec : LoopState → Option Code → Obj),
  (∀ R' : Ending → World → Prop, ∀ (n7 : Int), ∀ (wr : World), wr.heap[(u0.heap.size + 1)]? = some (rec .ready none) →
   (wr.heap[(u0.heap.size + 1)]? = some (rec .ready none) ∧
    letW (wr.putObj (u0.heap.size + 1) (rec .busy none)) fun u0_1 =>
    ∃ (a8 : Option Addr) (l8 c8 : Nat), u0_1.cell? ⟨w.heap.size, 0, none⟩ = some (.slice a8 l8 c8) ∧
    ∃ (a10 : Option Addr) (l10 c10 : Nat), ∃ w10, (Instr.buildSlice T.«l_u32» 1 ⟨[(0, .int .u32 n7)]⟩).run P u0_1 = .ok (.slice a10 l10 c10) w10 ∧
    ∃ (a11 : Option Addr) (l11 c11 : Nat), ∃ w11, (Builtin.append_ ⟨[T.«l_u32», T.«l_u32»]⟩ T.«l_u32» ⟨[.slice a8 l8 c8, .slice a10 l10 c10]⟩).run P w10 = .ok (.slice a11 l11 c11) w11 ∧
    (∃ old, w11.cell? ((⟨w.heap.size, 0, none⟩ : Addr).add 0) = some old) ∧ w11.frozen? ((⟨w.heap.size, 0, none⟩ : Addr).add 0) = false ∧
    letW (w11.setCell ((⟨w.heap.size, 0, none⟩ : Addr).add 0) (.slice a11 l11 c11)) fun u0_2 =>
    u0_2.heap[(u0.heap.size + 1)]? = some (rec .busy none) ∧ R' (.returned (.bool true)) (u0_2.putObj (u0.heap.size + 1) (rec .ready none))) → callV P Bd y [.int .u32 n7] wr R') →
  Calls P gf ⟨first ++ [y] ++ caps⟩ ((u0.alloc (.deferred (some []))).alloc (rec .ready none)) fun ef wf => (∃ v, ef = .returned v) ∧
  (((∃ stj, stj ≠ .busy ∧ wf.heap[(u0.heap.size + 1)]? = some (rec stj none) ∧
     letW (wf.putObj (u0.heap.size + 1) (rec .exhausted none)) fun u0_3 =>
     ∃ (a12 : Option Addr) (l12 c12 : Nat), u0_3.cell? ⟨w.heap.size, 0, none⟩ = some (.slice a12 l12 c12) ∧
     u0_3.heap[u0.heap.size]? = some (.deferred (some [])) ∧
     letW (u0_3.putObj u0.heap.size (.deferred none)) fun u0_4 =>
     R (.returned (.slice a12 l12 c12)) u0_4) ∨ (∃ stj, stj ≠ .busy ∧ wf.heap[(u0.heap.size + 1)]? = some (rec stj (some .ret)) ∧
     letW (wf.putObj (u0.heap.size + 1) (rec .exhausted (some .ret))) fun u0_5 =>
     u0_5.heap[u0.heap.size]? = some (.deferred (some [])) ∧
     letW (u0_5.putObj u0.heap.size (.deferred none)) fun u0_6 =>
     R (.returned (.slice none 0 0)) u0_6))))
def plan_slices_AppendSeq_sl_uint32_uint32 : Plan := { loops := fun i => match i with | _ => ([], []), cuts := fun i => match i with | _ => none, head := fun i => match i with | _ => none, rng := fun i => match i with | 3 => [(.int .u32)] | _ => [] }
theorem ok_slices_AppendSeq_sl_uint32_uint32 {s0 : Option Addr} {s0l s0c : Nat} {seq1 : Value} {R : Ending → World → Prop} {w : World} (h : V_slices_AppendSeq_sl_uint32_uint32 s0 s0l s0c seq1 R w) : Calls P F.«slices_AppendSeq_sl_uint32_uint32» ⟨[.slice s0 s0l s0c, seq1]⟩ w R :=
  calls_of_vc tabOk bdOk mixed (fn := Try.f54) (c := bodyOf Try.f54) (pl := plan_slices_AppendSeq_sl_uint32_uint32) Try.func54 (by kernel_rfl) (Nat.le_of_ble_eq_true (by kernel_rfl)) (by kernel_rfl)
    (Eq.mp (show V_slices_AppendSeq_sl_uint32_uint32 s0 s0l s0c seq1 R w = vcFun P Tb Bd plan_slices_AppendSeq_sl_uint32_uint32 (raw Try.f54.ntmps) Try.f54.results.toList (bodyOf Try.f54) [.slice s0 s0l s0c, seq1] R w by kernel_rfl) h)

def V_slices_pdqsortOrdered_uint32 (data0 : Option Addr) (data0l data0c : Nat) (a1 : Int) (b2 : Int) (limit3 : Int) (R : Ending → World → Prop) (w : World) : Prop :=
 ∃ (I2 : Tup [(1, (.int .i64)), (2, (.int .i64)), (3, (.int .i64)), (8, .bool), (9, .bool)] → World → Prop) (μ2 : Tup [(1, (.int .i64)), (2, (.int .i64)), (3, (.int .i64)), (8, .bool), (9, .bool)] → World → Nat), I2 (a1, b2, limit3, true, true, ()) w ∧
 ∀ (junk2 : St) (n1 : Int) (n2 : Int) (n3 : Int) (b8 : Bool) (b9 : Bool) (wL2 : World), I2 (n1, n2, n3, b8, b9, ()) wL2 →
 bcase (decide ((IntKind.wrap .i64 (n2 - n1)) ≤ 12)) (
  Calls P F.«slices_insertionSortOrdered_uint32» ⟨[.slice data0 data0l data0c, .int .i64 n1, .int .i64 n2]⟩ wL2 fun e27 w27 => e27 = .returned (.tuple ⟨[]⟩) ∧
  R (.returned (.tuple ⟨[]⟩)) w27)
 (bcase (n3 == 0) (
   Calls P F.«slices_heapSortOrdered_uint32» ⟨[.slice data0 data0l data0c, .int .i64 n1, .int .i64 n2]⟩ wL2 fun e33 w33 => e33 = .returned (.tuple ⟨[]⟩) ∧
   R (.returned (.tuple ⟨[]⟩)) w33)
  (∃ J10 : Tup [(3, (.int .i64))] → World → Prop, (bcase (!b8) (
     Calls P F.«slices_breakPatternsOrdered_uint32» ⟨[.slice data0 data0l data0c, .int .i64 n1, .int .i64 n2]⟩ wL2 fun e39 w39 => e39 = .returned (.tuple ⟨[]⟩) ∧
     J10 ((IntKind.wrap .i64 (n3 - 1)), ()) w39)
    (J10 (n3, ()) wL2)) ∧
   ∀ (junk10 : St) (n3_1 : Int) (wJ10 : World), J10 (n3_1, ()) wJ10 →
   Calls P F.«slices_choosePivotOrdered_uint32» ⟨[.slice data0 data0l data0c, .int .i64 n1, .int .i64 n2]⟩ wJ10 fun e46 w46 => ∃ n46_a : Int, ∃ n46_b : Int, e46 = .returned (.tuple ⟨[.int .i64 n46_a, .int .i64 n46_b]⟩) ∧
   ∃ J15 : Tup [(11, (.int .i64)), (12, (.int .i64))] → World → Prop, (bcase (n46_b == 2) (
     Calls P F.«slices_reverseRangeOrdered_uint32» ⟨[.slice data0 data0l data0c, .int .i64 n1, .int .i64 n2]⟩ w46 fun e54 w54 => e54 = .returned (.tuple ⟨[]⟩) ∧
     J15 ((IntKind.wrap .i64 ((IntKind.wrap .i64 (n2 - 1)) - (IntKind.wrap .i64 (n46_a - n1)))), 1, ()) w54)
    (J15 (n46_a, n46_b, ()) w46)) ∧
   ∀ (junk15 : St) (n11 : Int) (n12 : Int) (wJ15 : World), J15 (n11, n12, ()) wJ15 →
   ∃ J17 : Tup [] → World → Prop, (∃ J16 : Tup [(68, .bool)] → World → Prop, (bcase b8 (
      bcase b9 (
       J16 ((n12 == 1), ()) wJ15)
      (J16 (false, ()) wJ15))
     (J16 (false, ()) wJ15)) ∧
    ∀ (junk16 : St) (b68 : Bool) (wJ16 : World), J16 (b68, ()) wJ16 →
    bcase b68 (
     Calls P F.«slices_partialInsertionSortOrdered_uint32» ⟨[.slice data0 data0l data0c, .int .i64 n1, .int .i64 n2]⟩ wJ16 fun e72 w72 => ∃ b72 : Bool, e72 = .returned (.bool b72) ∧
     bcase b72 (
      R (.returned (.tuple ⟨[]⟩)) w72)
     (J17 () w72))
    (J17 () wJ16)) ∧
   ∀ (junk17 : St) (wJ17 : World), J17 () wJ17 →
   ∃ J20 : Tup [(1, (.int .i64))] → World → Prop, (bcase (decide (n1 > 0)) (
     (0 ≤ (IntKind.wrap .i64 (n1 - 1)) ∧ (IntKind.wrap .i64 (n1 - 1)) < (data0l : Int)) ∧
     ptrW data0 fun a79 =>
     ∃ n80 : Int, wJ17.cell? (a79.add ((IntKind.wrap .i64 (n1 - 1)).toNat * 1)) = some (.int .u32 n80) ∧
     (0 ≤ n11 ∧ n11 < (data0l : Int)) ∧
     ptrW data0 fun a83 =>
     ∃ n84 : Int, wJ17.cell? (a83.add (n11.toNat * 1)) = some (.int .u32 n84) ∧
     ∀ wd17, Drew wJ17 wd17 →
     Calls P F.«cmp_Less_uint32» ⟨[.int .u32 n80, .int .u32 n84]⟩ wd17 fun e85 w85 => ∃ b85 : Bool, e85 = .returned (.bool b85) ∧
     bcase (!b85) (
      Calls P F.«slices_partitionEqualOrdered_uint32» ⟨[.slice data0 data0l data0c, .int .i64 n1, .int .i64 n2, .int .i64 n11]⟩ w85 fun e92 w92 => ∃ n92 : Int, e92 = .returned (.int .i64 n92) ∧
      I2 (n92, n2, n3_1, b8, b9, ()) w92 ∧ μ2 (n92, n2, n3_1, b8, b9, ()) w92 < μ2 (n1, n2, n3, b8, b9, ()) wL2)
     (J20 (n1, ()) w85))
    (∀ wd17, Drew wJ17 wd17 →
     J20 (n1, ()) wd17)) ∧
   ∀ (junk20 : St) (n1_1 : Int) (wJ20 : World), J20 (n1_1, ()) wJ20 →
   Calls P F.«slices_partitionOrdered_uint32» ⟨[.slice data0 data0l data0c, .int .i64 n1_1, .int .i64 n2, .int .i64 n11]⟩ wJ20 fun e99 w99 => ∃ n99_a : Int, ∃ b99_b : Bool, e99 = .returned (.tuple ⟨[.int .i64 n99_a, .bool b99_b]⟩) ∧
   (8 : Int) ≠ 0 ∧ bcase (decide ((IntKind.wrap .i64 (n99_a - n1_1)) < (IntKind.wrap .i64 (n2 - n99_a)))) (
    Calls P F.«slices_pdqsortOrdered_uint32» ⟨[.slice data0 data0l data0c, .int .i64 n1_1, .int .i64 n99_a, .int .i64 n3_1]⟩ w99 fun e121 w121 => e121 = .returned (.tuple ⟨[]⟩) ∧
    I2 ((IntKind.wrap .i64 (n99_a + 1)), n2, n3_1, (decide ((IntKind.wrap .i64 (n99_a - n1_1)) ≥ (IntKind.wrap .i64 (Int.tdiv (IntKind.wrap .i64 (n2 - n1)) 8)))), b99_b, ()) w121 ∧ μ2 ((IntKind.wrap .i64 (n99_a + 1)), n2, n3_1, (decide ((IntKind.wrap .i64 (n99_a - n1_1)) ≥ (IntKind.wrap .i64 (Int.tdiv (IntKind.wrap .i64 (n2 - n1)) 8)))), b99_b, ()) w121 < μ2 (n1, n2, n3, b8, b9, ()) wL2)
   (Calls P F.«slices_pdqsortOrdered_uint32» ⟨[.slice data0 data0l data0c, .int .i64 (IntKind.wrap .i64 (n99_a + 1)), .int .i64 n2, .int .i64 n3_1]⟩ w99 fun e132 w132 => e132 = .returned (.tuple ⟨[]⟩) ∧
    I2 (n1_1, n99_a, n3_1, (decide ((IntKind.wrap .i64 (n2 - n99_a)) ≥ (IntKind.wrap .i64 (Int.tdiv (IntKind.wrap .i64 (n2 - n1)) 8)))), b99_b, ()) w132 ∧ μ2 (n1_1, n99_a, n3_1, (decide ((IntKind.wrap .i64 (n2 - n99_a)) ≥ (IntKind.wrap .i64 (Int.tdiv (IntKind.wrap .i64 (n2 - n1)) 8)))), b99_b, ()) w132 < μ2 (n1, n2, n3, b8, b9, ()) wL2)))
def plan_slices_pdqsortOrdered_uint32 : Plan := { loops := fun i => match i with | 32 => ([(1, (.int .i64)), (2, (.int .i64)), (3, (.int .i64)), (8, .bool), (9, .bool)], [1, 2, 3, 8, 9, 10, 11, 12, 13, 14, 15, 16, 17, 18, 19, 20, 21, 22, 23, 24, 25, 26, 27, 28, 29, 30, 31, 32, 33, 34, 35, 36, 37, 38, 39, 40, 41, 42, 43, 44, 45, 46, 47, 48, 49, 50, 51, 52, 53, 54, 55, 56, 57, 58, 59, 60, 61, 62, 63, 64, 65, 66, 67, 68, 69, 70, 71, 72, 73, 74, 75, 76, 77, 78, 79, 80, 81, 82, 83, 84, 85, 86, 87, 88, 89, 90, 91, 92, 93, 94, 95, 96, 97, 98, 99, 100, 101, 102, 103, 104, 105, 106, 107, 108, 109, 110, 111, 112, 113, 114, 115, 116, 117, 118, 119, 120, 121, 122, 123, 124, 125, 126, 127, 128, 129, 130, 131, 132, 133]) | _ => ([], []), cuts := fun i => match i with | 10 => some ([(3, (.int .i64))], [3, 34, 35, 36, 37, 38, 39, 40, 41]) | 15 => some ([(11, (.int .i64)), (12, (.int .i64))], [11, 12, 49, 50, 51, 52, 53, 54, 55, 56, 57, 58, 59, 60]) | 16 => some ([(68, .bool)], [61, 62, 63, 64, 65, 66, 67, 68]) | 17 => some ([], [61, 62, 63, 64, 65, 66, 67, 68, 69, 70, 71, 72]) | 20 => some ([(1, (.int .i64))], [1, 13, 73, 74, 75, 76, 77, 78, 79, 80, 81, 82, 83, 84, 85, 86, 87, 88, 89, 90, 91, 92, 93]) | _ => none, head := fun i => match i with | 17 => some ([], [0, 1, 2, 3, 4, 5, 6, 7, 8, 9, 10, 11], [12, 13, 14]) | _ => none, rng := fun i => match i with | _ => [] }
theorem ok_slices_pdqsortOrdered_uint32 {data0 : Option Addr} {data0l data0c : Nat} {a1 : Int} {b2 : Int} {limit3 : Int} {R : Ending → World → Prop} {w : World} (h : V_slices_pdqsortOrdered_uint32 data0 data0l data0c a1 b2 limit3 R w) : Calls P F.«slices_pdqsortOrdered_uint32» ⟨[.slice data0 data0l data0c, .int .i64 a1, .int .i64 b2, .int .i64 limit3]⟩ w R :=
  calls_of_vc tabOk bdOk mixed (fn := Try.f55) (c := bodyOf Try.f55) (pl := plan_slices_pdqsortOrdered_uint32) Try.func55 (by kernel_rfl) (Nat.le_of_ble_eq_true (by kernel_rfl)) (by kernel_rfl)
    (Eq.mp (show V_slices_pdqsortOrdered_uint32 data0 data0l data0c a1 b2 limit3 R w = vcFun P Tb Bd plan_slices_pdqsortOrdered_uint32 (raw Try.f55.ntmps) Try.f55.results.toList (bodyOf Try.f55) [.slice data0 data0l data0c, .int .i64 a1, .int .i64 b2, .int .i64 limit3] R w by kernel_rfl) h)

def V_math_bits_Len (x0 : Int) (R : Ending → World → Prop) (w : World) : Prop :=
 Calls P F.«math_bits_Len64» ⟨[.int .u64 x0]⟩ w fun e7 w7 => ∃ n7 : Int, e7 = .returned (.int .i64 n7) ∧
 R (.returned (.int .i64 n7)) w7
def plan_math_bits_Len : Plan := { loops := fun i => match i with | _ => ([], []), cuts := fun i => match i with | _ => none, head := fun i => match i with | _ => none, rng := fun i => match i with | _ => [] }
theorem ok_math_bits_Len {x0 : Int} {R : Ending → World → Prop} {w : World} (h : V_math_bits_Len x0 R w) : Calls P F.«math_bits_Len» ⟨[.int .u64 x0]⟩ w R :=
  calls_of_vc tabOk bdOk mixed (fn := Try.f56) (c := bodyOf Try.f56) (pl := plan_math_bits_Len) Try.func56 (by kernel_rfl) (Nat.le_of_ble_eq_true (by kernel_rfl)) (by kernel_rfl)
    (Eq.mp (show V_math_bits_Len x0 R w = vcFun P Tb Bd plan_math_bits_Len (raw Try.f56.ntmps) Try.f56.results.toList (bodyOf Try.f56) [.int .u64 x0] R w by kernel_rfl) h)

def V_slices_choosePivotOrdered_uint32 (data0 : Option Addr) (data0l data0c : Nat) (a1 : Int) (b2 : Int) (R : Ending → World → Prop) (w : World) : Prop :=
 letW (w.alloc (.cells ⟨[(.int .i64 0)]⟩ T.«i64'»)) fun u0 =>
 (4 : Int) ≠ 0 ∧ (4 : Int) ≠ 0 ∧ (4 : Int) ≠ 0 ∧ ∃ J12 : Tup [(11, (.int .i64))] → World → Prop, (bcase (decide ((IntKind.wrap .i64 (b2 - a1)) ≥ 8)) (
   bcase (decide ((IntKind.wrap .i64 (b2 - a1)) ≥ 50)) (
    Calls P F.«slices_medianAdjacentOrdered_uint32» ⟨[.slice data0 data0l data0c, .int .i64 (IntKind.wrap .i64 (a1 + (IntKind.wrap .i64 ((IntKind.wrap .i64 (Int.tdiv (IntKind.wrap .i64 (b2 - a1)) 4)) * 1)))), .pointer (some ⟨w.heap.size, 0, none⟩)]⟩ u0 fun e37 w37 => ∃ n37 : Int, e37 = .returned (.int .i64 n37) ∧
    Calls P F.«slices_medianAdjacentOrdered_uint32» ⟨[.slice data0 data0l data0c, .int .i64 (IntKind.wrap .i64 (a1 + (IntKind.wrap .i64 ((IntKind.wrap .i64 (Int.tdiv (IntKind.wrap .i64 (b2 - a1)) 4)) * 2)))), .pointer (some ⟨w.heap.size, 0, none⟩)]⟩ w37 fun e40 w40 => ∃ n40 : Int, e40 = .returned (.int .i64 n40) ∧
    Calls P F.«slices_medianAdjacentOrdered_uint32» ⟨[.slice data0 data0l data0c, .int .i64 (IntKind.wrap .i64 (a1 + (IntKind.wrap .i64 ((IntKind.wrap .i64 (Int.tdiv (IntKind.wrap .i64 (b2 - a1)) 4)) * 3)))), .pointer (some ⟨w.heap.size, 0, none⟩)]⟩ w40 fun e43 w43 => ∃ n43 : Int, e43 = .returned (.int .i64 n43) ∧
    Calls P F.«slices_medianOrdered_uint32» ⟨[.slice data0 data0l data0c, .int .i64 n37, .int .i64 n40, .int .i64 n43, .pointer (some ⟨w.heap.size, 0, none⟩)]⟩ w43 fun e48 w48 => ∃ n48 : Int, e48 = .returned (.int .i64 n48) ∧
    J12 (n48, ()) w48)
   (Calls P F.«slices_medianOrdered_uint32» ⟨[.slice data0 data0l data0c, .int .i64 (IntKind.wrap .i64 (a1 + (IntKind.wrap .i64 ((IntKind.wrap .i64 (Int.tdiv (IntKind.wrap .i64 (b2 - a1)) 4)) * 1)))), .int .i64 (IntKind.wrap .i64 (a1 + (IntKind.wrap .i64 ((IntKind.wrap .i64 (Int.tdiv (IntKind.wrap .i64 (b2 - a1)) 4)) * 2)))), .int .i64 (IntKind.wrap .i64 (a1 + (IntKind.wrap .i64 ((IntKind.wrap .i64 (Int.tdiv (IntKind.wrap .i64 (b2 - a1)) 4)) * 3)))), .pointer (some ⟨w.heap.size, 0, none⟩)]⟩ u0 fun e48_1 w48_1 => ∃ n48_1 : Int, e48_1 = .returned (.int .i64 n48_1) ∧
    J12 (n48_1, ()) w48_1))
  (J12 ((IntKind.wrap .i64 (a1 + (IntKind.wrap .i64 ((IntKind.wrap .i64 (Int.tdiv (IntKind.wrap .i64 (b2 - a1)) 4)) * 2)))), ()) u0)) ∧
 ∀ (junk12 : St) (n11 : Int) (wJ12 : World), J12 (n11, ()) wJ12 →
 ∃ n49 : Int, wJ12.cell? ⟨w.heap.size, 0, none⟩ = some (.int .i64 n49) ∧
 bcase (n49 == 0) (
  R (.returned (.tuple ⟨[.int .i64 n11, .int .i64 1]⟩)) wJ12)
 (bcase (n49 == 12) (
   R (.returned (.tuple ⟨[.int .i64 n11, .int .i64 2]⟩)) wJ12)
  (R (.returned (.tuple ⟨[.int .i64 n11, .int .i64 0]⟩)) wJ12))
def plan_slices_choosePivotOrdered_uint32 : Plan := { loops := fun i => match i with | _ => ([], []), cuts := fun i => match i with | 12 => some ([(11, (.int .i64))], [10, 11, 12, 31, 32, 33, 34, 35, 36, 37, 38, 39, 40, 41, 42, 43, 44, 45, 46, 47, 48]) | _ => none, head := fun i => match i with | _ => none, rng := fun i => match i with | _ => [] }
theorem ok_slices_choosePivotOrdered_uint32 {data0 : Option Addr} {data0l data0c : Nat} {a1 : Int} {b2 : Int} {R : Ending → World → Prop} {w : World} (h : V_slices_choosePivotOrdered_uint32 data0 data0l data0c a1 b2 R w) : Calls P F.«slices_choosePivotOrdered_uint32» ⟨[.slice data0 data0l data0c, .int .i64 a1, .int .i64 b2]⟩ w R :=
  calls_of_vc tabOk bdOk mixed (fn := Try.f60) (c := bodyOf Try.f60) (pl := plan_slices_choosePivotOrdered_uint32) Try.func60 (by kernel_rfl) (Nat.le_of_ble_eq_true (by kernel_rfl)) (by kernel_rfl)
    (Eq.mp (show V_slices_choosePivotOrdered_uint32 data0 data0l data0c a1 b2 R w = vcFun P Tb Bd plan_slices_choosePivotOrdered_uint32 (raw Try.f60.ntmps) Try.f60.results.toList (bodyOf Try.f60) [.slice data0 data0l data0c, .int .i64 a1, .int .i64 b2] R w by kernel_rfl) h)

def V_cmp_Less_uint32 (x0 : Int) (y1 : Int) (R : Ending → World → Prop) (w : World) : Prop :=
 Calls P F.«cmp_isNaN_uint32» ⟨[.int .u32 x0]⟩ w fun e6 w6 => ∃ b6 : Bool, e6 = .returned (.bool b6) ∧
 bcase b6 (
  Calls P F.«cmp_isNaN_uint32» ⟨[.int .u32 y1]⟩ w6 fun e9 w9 => ∃ b9 : Bool, e9 = .returned (.bool b9) ∧
  bcase (!b9) (
   R (.returned (.bool true)) w9)
  (R (.returned (.bool (decide (x0 < y1)))) w9))
 (R (.returned (.bool (decide (x0 < y1)))) w6)
def plan_cmp_Less_uint32 : Plan := { loops := fun i => match i with | _ => ([], []), cuts := fun i => match i with | _ => none, head := fun i => match i with | _ => none, rng := fun i => match i with | _ => [] }
theorem ok_cmp_Less_uint32 {x0 : Int} {y1 : Int} {R : Ending → World → Prop} {w : World} (h : V_cmp_Less_uint32 x0 y1 R w) : Calls P F.«cmp_Less_uint32» ⟨[.int .u32 x0, .int .u32 y1]⟩ w R :=
  calls_of_vc tabOk bdOk mixed (fn := Try.f63) (c := bodyOf Try.f63) (pl := plan_cmp_Less_uint32) Try.func63 (by kernel_rfl) (Nat.le_of_ble_eq_true (by kernel_rfl)) (by kernel_rfl)
    (Eq.mp (show V_cmp_Less_uint32 x0 y1 R w = vcFun P Tb Bd plan_cmp_Less_uint32 (raw Try.f63.ntmps) Try.f63.results.toList (bodyOf Try.f63) [.int .u32 x0, .int .u32 y1] R w by kernel_rfl) h)

def V_math_bits_Len32 (x0 : Int) (R : Ending → World → Prop) (w : World) : Prop :=
 ∃ J4 : Tup [(0, (.int .u32)), (2, (.int .i64))] → World → Prop, (bcase (decide (x0 ≥ 65536)) (
   0 ≤ (16 : Int) ∧
   J4 ((Int.fdiv x0 (2 ^ (min (16 : Int).toNat (IntKind.bits .u32)))), 16, ()) w)
  (J4 (x0, 0, ()) w)) ∧
 ∀ (junk4 : St) (n0 : Int) (n2 : Int) (wJ4 : World), J4 (n0, n2, ()) wJ4 →
 bcase (decide (n0 ≥ 256)) (
  0 ≤ (8 : Int) ∧
  (0 ≤ (IntKind.wrap .u8 (Int.fdiv n0 (2 ^ (min (8 : Int).toNat (IntKind.bits .u32))))) ∧ (IntKind.wrap .u8 (Int.fdiv n0 (2 ^ (min (8 : Int).toNat (IntKind.bits .u32))))) < ((bs [0, 1, 2, 2, 3, 3, 3, 3, 4, 4, 4, 4, 4, 4, 4, 4, 5, 5, 5, 5, 5, 5, 5, 5, 5, 5, 5, 5, 5, 5, 5, 5, 6, 6, 6, 6, 6, 6, 6, 6, 6, 6, 6, 6, 6, 6, 6, 6, 6, 6, 6, 6, 6, 6, 6, 6, 6, 6, 6, 6, 6, 6, 6, 6, 7, 7, 7, 7, 7, 7, 7, 7, 7, 7, 7, 7, 7, 7, 7, 7, 7, 7, 7, 7, 7, 7, 7, 7, 7, 7, 7, 7, 7, 7, 7, 7, 7, 7, 7, 7, 7, 7, 7, 7, 7, 7, 7, 7, 7, 7, 7, 7, 7, 7, 7, 7, 7, 7, 7, 7, 7, 7, 7, 7, 7, 7, 7, 7, 8, 8, 8, 8, 8, 8, 8, 8, 8, 8, 8, 8, 8, 8, 8, 8, 8, 8, 8, 8, 8, 8, 8, 8, 8, 8, 8, 8, 8, 8, 8, 8, 8, 8, 8, 8, 8, 8, 8, 8, 8, 8, 8, 8, 8, 8, 8, 8, 8, 8, 8, 8, 8, 8, 8, 8, 8, 8, 8, 8, 8, 8, 8, 8, 8, 8, 8, 8, 8, 8, 8, 8, 8, 8, 8, 8, 8, 8, 8, 8, 8, 8, 8, 8, 8, 8, 8, 8, 8, 8, 8, 8, 8, 8, 8, 8, 8, 8, 8, 8, 8, 8, 8, 8, 8, 8, 8, 8, 8, 8, 8, 8, 8, 8, 8, 8, 8, 8, 8, 8, 8, 8, 8, 8, 8, 8, 8, 8]).size : Int)) ∧
  R (.returned (.int .i64 (IntKind.wrap .i64 ((IntKind.wrap .i64 (n2 + 8)) + (IntKind.wrap .i64 (bt (bs [0, 1, 2, 2, 3, 3, 3, 3, 4, 4, 4, 4, 4, 4, 4, 4, 5, 5, 5, 5, 5, 5, 5, 5, 5, 5, 5, 5, 5, 5, 5, 5, 6, 6, 6, 6, 6, 6, 6, 6, 6, 6, 6, 6, 6, 6, 6, 6, 6, 6, 6, 6, 6, 6, 6, 6, 6, 6, 6, 6, 6, 6, 6, 6, 7, 7, 7, 7, 7, 7, 7, 7, 7, 7, 7, 7, 7, 7, 7, 7, 7, 7, 7, 7, 7, 7, 7, 7, 7, 7, 7, 7, 7, 7, 7, 7, 7, 7, 7, 7, 7, 7, 7, 7, 7, 7, 7, 7, 7, 7, 7, 7, 7, 7, 7, 7, 7, 7, 7, 7, 7, 7, 7, 7, 7, 7, 7, 7, 8, 8, 8, 8, 8, 8, 8, 8, 8, 8, 8, 8, 8, 8, 8, 8, 8, 8, 8, 8, 8, 8, 8, 8, 8, 8, 8, 8, 8, 8, 8, 8, 8, 8, 8, 8, 8, 8, 8, 8, 8, 8, 8, 8, 8, 8, 8, 8, 8, 8, 8, 8, 8, 8, 8, 8, 8, 8, 8, 8, 8, 8, 8, 8, 8, 8, 8, 8, 8, 8, 8, 8, 8, 8, 8, 8, 8, 8, 8, 8, 8, 8, 8, 8, 8, 8, 8, 8, 8, 8, 8, 8, 8, 8, 8, 8, 8, 8, 8, 8, 8, 8, 8, 8, 8, 8, 8, 8, 8, 8, 8, 8, 8, 8, 8, 8, 8, 8, 8, 8, 8, 8, 8, 8, 8, 8, 8, 8]) (IntKind.wrap .u8 (Int.fdiv n0 (2 ^ (min (8 : Int).toNat (IntKind.bits .u32))))))))))) wJ4)
 ((0 ≤ (IntKind.wrap .u8 n0) ∧ (IntKind.wrap .u8 n0) < ((bs [0, 1, 2, 2, 3, 3, 3, 3, 4, 4, 4, 4, 4, 4, 4, 4, 5, 5, 5, 5, 5, 5, 5, 5, 5, 5, 5, 5, 5, 5, 5, 5, 6, 6, 6, 6, 6, 6, 6, 6, 6, 6, 6, 6, 6, 6, 6, 6, 6, 6, 6, 6, 6, 6, 6, 6, 6, 6, 6, 6, 6, 6, 6, 6, 7, 7, 7, 7, 7, 7, 7, 7, 7, 7, 7, 7, 7, 7, 7, 7, 7, 7, 7, 7, 7, 7, 7, 7, 7, 7, 7, 7, 7, 7, 7, 7, 7, 7, 7, 7, 7, 7, 7, 7, 7, 7, 7, 7, 7, 7, 7, 7, 7, 7, 7, 7, 7, 7, 7, 7, 7, 7, 7, 7, 7, 7, 7, 7, 8, 8, 8, 8, 8, 8, 8, 8, 8, 8, 8, 8, 8, 8, 8, 8, 8, 8, 8, 8, 8, 8, 8, 8, 8, 8, 8, 8, 8, 8, 8, 8, 8, 8, 8, 8, 8, 8, 8, 8, 8, 8, 8, 8, 8, 8, 8, 8, 8, 8, 8, 8, 8, 8, 8, 8, 8, 8, 8, 8, 8, 8, 8, 8, 8, 8, 8, 8, 8, 8, 8, 8, 8, 8, 8, 8, 8, 8, 8, 8, 8, 8, 8, 8, 8, 8, 8, 8, 8, 8, 8, 8, 8, 8, 8, 8, 8, 8, 8, 8, 8, 8, 8, 8, 8, 8, 8, 8, 8, 8, 8, 8, 8, 8, 8, 8, 8, 8, 8, 8, 8, 8, 8, 8, 8, 8, 8, 8]).size : Int)) ∧
  R (.returned (.int .i64 (IntKind.wrap .i64 (n2 + (IntKind.wrap .i64 (bt (bs [0, 1, 2, 2, 3, 3, 3, 3, 4, 4, 4, 4, 4, 4, 4, 4, 5, 5, 5, 5, 5, 5, 5, 5, 5, 5, 5, 5, 5, 5, 5, 5, 6, 6, 6, 6, 6, 6, 6, 6, 6, 6, 6, 6, 6, 6, 6, 6, 6, 6, 6, 6, 6, 6, 6, 6, 6, 6, 6, 6, 6, 6, 6, 6, 7, 7, 7, 7, 7, 7, 7, 7, 7, 7, 7, 7, 7, 7, 7, 7, 7, 7, 7, 7, 7, 7, 7, 7, 7, 7, 7, 7, 7, 7, 7, 7, 7, 7, 7, 7, 7, 7, 7, 7, 7, 7, 7, 7, 7, 7, 7, 7, 7, 7, 7, 7, 7, 7, 7, 7, 7, 7, 7, 7, 7, 7, 7, 7, 8, 8, 8, 8, 8, 8, 8, 8, 8, 8, 8, 8, 8, 8, 8, 8, 8, 8, 8, 8, 8, 8, 8, 8, 8, 8, 8, 8, 8, 8, 8, 8, 8, 8, 8, 8, 8, 8, 8, 8, 8, 8, 8, 8, 8, 8, 8, 8, 8, 8, 8, 8, 8, 8, 8, 8, 8, 8, 8, 8, 8, 8, 8, 8, 8, 8, 8, 8, 8, 8, 8, 8, 8, 8, 8, 8, 8, 8, 8, 8, 8, 8, 8, 8, 8, 8, 8, 8, 8, 8, 8, 8, 8, 8, 8, 8, 8, 8, 8, 8, 8, 8, 8, 8, 8, 8, 8, 8, 8, 8, 8, 8, 8, 8, 8, 8, 8, 8, 8, 8, 8, 8, 8, 8, 8, 8, 8, 8]) (IntKind.wrap .u8 n0))))))) wJ4)
def plan_math_bits_Len32 : Plan := { loops := fun i => match i with | _ => ([], []), cuts := fun i => match i with | 4 => some ([(0, (.int .u32)), (2, (.int .i64))], [0, 2, 3, 4, 5, 6]) | _ => none, head := fun i => match i with | _ => none, rng := fun i => match i with | _ => [] }
theorem ok_math_bits_Len32 {x0 : Int} {R : Ending → World → Prop} {w : World} (h : V_math_bits_Len32 x0 R w) : Calls P F.«math_bits_Len32» ⟨[.int .u32 x0]⟩ w R :=
  calls_of_vc tabOk bdOk mixed (fn := Try.f66) (c := bodyOf Try.f66) (pl := plan_math_bits_Len32) Try.func66 (by kernel_rfl) (Nat.le_of_ble_eq_true (by kernel_rfl)) (by kernel_rfl)
    (Eq.mp (show V_math_bits_Len32 x0 R w = vcFun P Tb Bd plan_math_bits_Len32 (raw Try.f66.ntmps) Try.f66.results.toList (bodyOf Try.f66) [.int .u32 x0] R w by kernel_rfl) h)

def V_math_bits_Len64 (x0 : Int) (R : Ending → World → Prop) (w : World) : Prop :=
 ∃ J4 : Tup [(0, (.int .u64)), (2, (.int .i64))] → World → Prop, (bcase (decide (x0 ≥ 4294967296)) (
   0 ≤ (32 : Int) ∧
   J4 ((Int.fdiv x0 (2 ^ (min (32 : Int).toNat (IntKind.bits .u64)))), 32, ()) w)
  (J4 (x0, 0, ()) w)) ∧
 ∀ (junk4 : St) (n0 : Int) (n2 : Int) (wJ4 : World), J4 (n0, n2, ()) wJ4 →
 ∃ J7 : Tup [(0, (.int .u64)), (2, (.int .i64))] → World → Prop, (bcase (decide (n0 ≥ 65536)) (
   0 ≤ (16 : Int) ∧
   J7 ((Int.fdiv n0 (2 ^ (min (16 : Int).toNat (IntKind.bits .u64)))), (IntKind.wrap .i64 (n2 + 16)), ()) wJ4)
  (J7 (n0, n2, ()) wJ4)) ∧
 ∀ (junk7 : St) (n0_1 : Int) (n2_1 : Int) (wJ7 : World), J7 (n0_1, n2_1, ()) wJ7 →
 bcase (decide (n0_1 ≥ 256)) (
  0 ≤ (8 : Int) ∧
  (0 ≤ (IntKind.wrap .u8 (Int.fdiv n0_1 (2 ^ (min (8 : Int).toNat (IntKind.bits .u64))))) ∧ (IntKind.wrap .u8 (Int.fdiv n0_1 (2 ^ (min (8 : Int).toNat (IntKind.bits .u64))))) < ((bs [0, 1, 2, 2, 3, 3, 3, 3, 4, 4, 4, 4, 4, 4, 4, 4, 5, 5, 5, 5, 5, 5, 5, 5, 5, 5, 5, 5, 5, 5, 5, 5, 6, 6, 6, 6, 6, 6, 6, 6, 6, 6, 6, 6, 6, 6, 6, 6, 6, 6, 6, 6, 6, 6, 6, 6, 6, 6, 6, 6, 6, 6, 6, 6, 7, 7, 7, 7, 7, 7, 7, 7, 7, 7, 7, 7, 7, 7, 7, 7, 7, 7, 7, 7, 7, 7, 7, 7, 7, 7, 7, 7, 7, 7, 7, 7, 7, 7, 7, 7, 7, 7, 7, 7, 7, 7, 7, 7, 7, 7, 7, 7, 7, 7, 7, 7, 7, 7, 7, 7, 7, 7, 7, 7, 7, 7, 7, 7, 8, 8, 8, 8, 8, 8, 8, 8, 8, 8, 8, 8, 8, 8, 8, 8, 8, 8, 8, 8, 8, 8, 8, 8, 8, 8, 8, 8, 8, 8, 8, 8, 8, 8, 8, 8, 8, 8, 8, 8, 8, 8, 8, 8, 8, 8, 8, 8, 8, 8, 8, 8, 8, 8, 8, 8, 8, 8, 8, 8, 8, 8, 8, 8, 8, 8, 8, 8, 8, 8, 8, 8, 8, 8, 8, 8, 8, 8, 8, 8, 8, 8, 8, 8, 8, 8, 8, 8, 8, 8, 8, 8, 8, 8, 8, 8, 8, 8, 8, 8, 8, 8, 8, 8, 8, 8, 8, 8, 8, 8, 8, 8, 8, 8, 8, 8, 8, 8, 8, 8, 8, 8, 8, 8, 8, 8, 8, 8]).size : Int)) ∧
  R (.returned (.int .i64 (IntKind.wrap .i64 ((IntKind.wrap .i64 (n2_1 + 8)) + (IntKind.wrap .i64 (bt (bs [0, 1, 2, 2, 3, 3, 3, 3, 4, 4, 4, 4, 4, 4, 4, 4, 5, 5, 5, 5, 5, 5, 5, 5, 5, 5, 5, 5, 5, 5, 5, 5, 6, 6, 6, 6, 6, 6, 6, 6, 6, 6, 6, 6, 6, 6, 6, 6, 6, 6, 6, 6, 6, 6, 6, 6, 6, 6, 6, 6, 6, 6, 6, 6, 7, 7, 7, 7, 7, 7, 7, 7, 7, 7, 7, 7, 7, 7, 7, 7, 7, 7, 7, 7, 7, 7, 7, 7, 7, 7, 7, 7, 7, 7, 7, 7, 7, 7, 7, 7, 7, 7, 7, 7, 7, 7, 7, 7, 7, 7, 7, 7, 7, 7, 7, 7, 7, 7, 7, 7, 7, 7, 7, 7, 7, 7, 7, 7, 8, 8, 8, 8, 8, 8, 8, 8, 8, 8, 8, 8, 8, 8, 8, 8, 8, 8, 8, 8, 8, 8, 8, 8, 8, 8, 8, 8, 8, 8, 8, 8, 8, 8, 8, 8, 8, 8, 8, 8, 8, 8, 8, 8, 8, 8, 8, 8, 8, 8, 8, 8, 8, 8, 8, 8, 8, 8, 8, 8, 8, 8, 8, 8, 8, 8, 8, 8, 8, 8, 8, 8, 8, 8, 8, 8, 8, 8, 8, 8, 8, 8, 8, 8, 8, 8, 8, 8, 8, 8, 8, 8, 8, 8, 8, 8, 8, 8, 8, 8, 8, 8, 8, 8, 8, 8, 8, 8, 8, 8, 8, 8, 8, 8, 8, 8, 8, 8, 8, 8, 8, 8, 8, 8, 8, 8, 8, 8]) (IntKind.wrap .u8 (Int.fdiv n0_1 (2 ^ (min (8 : Int).toNat (IntKind.bits .u64))))))))))) wJ7)
 ((0 ≤ (IntKind.wrap .u8 n0_1) ∧ (IntKind.wrap .u8 n0_1) < ((bs [0, 1, 2, 2, 3, 3, 3, 3, 4, 4, 4, 4, 4, 4, 4, 4, 5, 5, 5, 5, 5, 5, 5, 5, 5, 5, 5, 5, 5, 5, 5, 5, 6, 6, 6, 6, 6, 6, 6, 6, 6, 6, 6, 6, 6, 6, 6, 6, 6, 6, 6, 6, 6, 6, 6, 6, 6, 6, 6, 6, 6, 6, 6, 6, 7, 7, 7, 7, 7, 7, 7, 7, 7, 7, 7, 7, 7, 7, 7, 7, 7, 7, 7, 7, 7, 7, 7, 7, 7, 7, 7, 7, 7, 7, 7, 7, 7, 7, 7, 7, 7, 7, 7, 7, 7, 7, 7, 7, 7, 7, 7, 7, 7, 7, 7, 7, 7, 7, 7, 7, 7, 7, 7, 7, 7, 7, 7, 7, 8, 8, 8, 8, 8, 8, 8, 8, 8, 8, 8, 8, 8, 8, 8, 8, 8, 8, 8, 8, 8, 8, 8, 8, 8, 8, 8, 8, 8, 8, 8, 8, 8, 8, 8, 8, 8, 8, 8, 8, 8, 8, 8, 8, 8, 8, 8, 8, 8, 8, 8, 8, 8, 8, 8, 8, 8, 8, 8, 8, 8, 8, 8, 8, 8, 8, 8, 8, 8, 8, 8, 8, 8, 8, 8, 8, 8, 8, 8, 8, 8, 8, 8, 8, 8, 8, 8, 8, 8, 8, 8, 8, 8, 8, 8, 8, 8, 8, 8, 8, 8, 8, 8, 8, 8, 8, 8, 8, 8, 8, 8, 8, 8, 8, 8, 8, 8, 8, 8, 8, 8, 8, 8, 8, 8, 8, 8, 8]).size : Int)) ∧
  R (.returned (.int .i64 (IntKind.wrap .i64 (n2_1 + (IntKind.wrap .i64 (bt (bs [0, 1, 2, 2, 3, 3, 3, 3, 4, 4, 4, 4, 4, 4, 4, 4, 5, 5, 5, 5, 5, 5, 5, 5, 5, 5, 5, 5, 5, 5, 5, 5, 6, 6, 6, 6, 6, 6, 6, 6, 6, 6, 6, 6, 6, 6, 6, 6, 6, 6, 6, 6, 6, 6, 6, 6, 6, 6, 6, 6, 6, 6, 6, 6, 7, 7, 7, 7, 7, 7, 7, 7, 7, 7, 7, 7, 7, 7, 7, 7, 7, 7, 7, 7, 7, 7, 7, 7, 7, 7, 7, 7, 7, 7, 7, 7, 7, 7, 7, 7, 7, 7, 7, 7, 7, 7, 7, 7, 7, 7, 7, 7, 7, 7, 7, 7, 7, 7, 7, 7, 7, 7, 7, 7, 7, 7, 7, 7, 8, 8, 8, 8, 8, 8, 8, 8, 8, 8, 8, 8, 8, 8, 8, 8, 8, 8, 8, 8, 8, 8, 8, 8, 8, 8, 8, 8, 8, 8, 8, 8, 8, 8, 8, 8, 8, 8, 8, 8, 8, 8, 8, 8, 8, 8, 8, 8, 8, 8, 8, 8, 8, 8, 8, 8, 8, 8, 8, 8, 8, 8, 8, 8, 8, 8, 8, 8, 8, 8, 8, 8, 8, 8, 8, 8, 8, 8, 8, 8, 8, 8, 8, 8, 8, 8, 8, 8, 8, 8, 8, 8, 8, 8, 8, 8, 8, 8, 8, 8, 8, 8, 8, 8, 8, 8, 8, 8, 8, 8, 8, 8, 8, 8, 8, 8, 8, 8, 8, 8, 8, 8, 8, 8, 8, 8, 8, 8]) (IntKind.wrap .u8 n0_1))))))) wJ7)
def plan_math_bits_Len64 : Plan := { loops := fun i => match i with | _ => ([], []), cuts := fun i => match i with | 4 => some ([(0, (.int .u64)), (2, (.int .i64))], [0, 2, 3, 4, 5, 6]) | 7 => some ([(0, (.int .u64)), (2, (.int .i64))], [0, 2, 7, 8, 9, 10, 11, 12]) | _ => none, head := fun i => match i with | _ => none, rng := fun i => match i with | _ => [] }
theorem ok_math_bits_Len64 {x0 : Int} {R : Ending → World → Prop} {w : World} (h : V_math_bits_Len64 x0 R w) : Calls P F.«math_bits_Len64» ⟨[.int .u64 x0]⟩ w R :=
  calls_of_vc tabOk bdOk mixed (fn := Try.f67) (c := bodyOf Try.f67) (pl := plan_math_bits_Len64) Try.func67 (by kernel_rfl) (Nat.le_of_ble_eq_true (by kernel_rfl)) (by kernel_rfl)
    (Eq.mp (show V_math_bits_Len64 x0 R w = vcFun P Tb Bd plan_math_bits_Len64 (raw Try.f67.ntmps) Try.f67.results.toList (bodyOf Try.f67) [.int .u64 x0] R w by kernel_rfl) h)

def V_slices_nextPowerOfTwo (length0 : Int) (R : Ending → World → Prop) (w : World) : Prop :=
 Calls P F.«math_bits_Len» ⟨[.int .u64 (IntKind.wrap .u64 length0)]⟩ w fun e5 w5 => ∃ n5 : Int, e5 = .returned (.int .i64 n5) ∧
 0 ≤ n5 ∧
 R (.returned (.int .u64 (IntKind.wrap .u64 (1 * 2 ^ (min n5.toNat (IntKind.bits .u64)))))) w5
def plan_slices_nextPowerOfTwo : Plan := { loops := fun i => match i with | _ => ([], []), cuts := fun i => match i with | _ => none, head := fun i => match i with | _ => none, rng := fun i => match i with | _ => [] }
theorem ok_slices_nextPowerOfTwo {length0 : Int} {R : Ending → World → Prop} {w : World} (h : V_slices_nextPowerOfTwo length0 R w) : Calls P F.«slices_nextPowerOfTwo» ⟨[.int .i64 length0]⟩ w R :=
  calls_of_vc tabOk bdOk mixed (fn := Try.f69) (c := bodyOf Try.f69) (pl := plan_slices_nextPowerOfTwo) Try.func69 (by kernel_rfl) (Nat.le_of_ble_eq_true (by kernel_rfl)) (by kernel_rfl)
    (Eq.mp (show V_slices_nextPowerOfTwo length0 R w = vcFun P Tb Bd plan_slices_nextPowerOfTwo (raw Try.f69.ntmps) Try.f69.results.toList (bodyOf Try.f69) [.int .i64 length0] R w by kernel_rfl) h)

def V_slices_xorshift_Next (r0 : Option Addr) (R : Ending → World → Prop) (w : World) : Prop :=
 ptrW r0 fun a4 =>
 ∃ n5 : Int, w.cell? a4 = some (.int .u64 n5) ∧
 ptrW r0 fun a7 =>
 ∃ n8 : Int, w.cell? a7 = some (.int .u64 n8) ∧
 0 ≤ (13 : Int) ∧
 ptrW r0 fun a11 =>
 ∀ wd1, Drew w wd1 →
 (∃ old, wd1.cell? (a11.add 0) = some old) ∧ wd1.frozen? (a11.add 0) = false ∧
 letW (wd1.setCell (a11.add 0) (.int .u64 (bits .xor .u64 n5 (IntKind.wrap .u64 (n8 * 2 ^ (min (13 : Int).toNat (IntKind.bits .u64))))))) fun u0 =>
 ptrW r0 fun a13 =>
 ∃ n14 : Int, u0.cell? a13 = some (.int .u64 n14) ∧
 ptrW r0 fun a16 =>
 ∃ n17 : Int, u0.cell? a16 = some (.int .u64 n17) ∧
 0 ≤ (7 : Int) ∧
 ptrW r0 fun a20 =>
 ∀ wd2, Drew u0 wd2 →
 (∃ old, wd2.cell? (a20.add 0) = some old) ∧ wd2.frozen? (a20.add 0) = false ∧
 letW (wd2.setCell (a20.add 0) (.int .u64 (bits .xor .u64 n14 (Int.fdiv n17 (2 ^ (min (7 : Int).toNat (IntKind.bits .u64))))))) fun u0_1 =>
 ptrW r0 fun a22 =>
 ∃ n23 : Int, u0_1.cell? a22 = some (.int .u64 n23) ∧
 ptrW r0 fun a25 =>
 ∃ n26 : Int, u0_1.cell? a25 = some (.int .u64 n26) ∧
 0 ≤ (17 : Int) ∧
 ptrW r0 fun a29 =>
 ∀ wd3, Drew u0_1 wd3 →
 (∃ old, wd3.cell? (a29.add 0) = some old) ∧ wd3.frozen? (a29.add 0) = false ∧
 letW (wd3.setCell (a29.add 0) (.int .u64 (bits .xor .u64 n23 (IntKind.wrap .u64 (n26 * 2 ^ (min (17 : Int).toNat (IntKind.bits .u64))))))) fun u0_2 =>
 ptrW r0 fun a31 =>
 ∃ n32 : Int, u0_2.cell? a31 = some (.int .u64 n32) ∧
 R (.returned (.int .u64 n32)) u0_2
def plan_slices_xorshift_Next : Plan := { loops := fun i => match i with | _ => ([], []), cuts := fun i => match i with | _ => none, head := fun i => match i with | 1 => some ([], [0, 1, 2, 3, 4, 5, 6, 7, 8], [9]) | 2 => some ([], [0, 1, 2, 3, 4, 5, 6, 7, 8], [9]) | 3 => some ([], [0, 1, 2, 3, 4, 5, 6, 7, 8], [9]) | _ => none, rng := fun i => match i with | _ => [] }
theorem ok_slices_xorshift_Next {r0 : Option Addr} {R : Ending → World → Prop} {w : World} (h : V_slices_xorshift_Next r0 R w) : Calls P F.«slices_xorshift_Next» ⟨[.pointer r0]⟩ w R :=
  calls_of_vc tabOk bdOk mixed (fn := Try.f70) (c := bodyOf Try.f70) (pl := plan_slices_xorshift_Next) Try.func70 (by kernel_rfl) (Nat.le_of_ble_eq_true (by kernel_rfl)) (by kernel_rfl)
    (Eq.mp (show V_slices_xorshift_Next r0 R w = vcFun P Tb Bd plan_slices_xorshift_Next (raw Try.f70.ntmps) Try.f70.results.toList (bodyOf Try.f70) [.pointer r0] R w by kernel_rfl) h)

def V_slices_medianAdjacentOrdered_uint32 (data0 : Option Addr) (data0l data0c : Nat) (a1 : Int) (swaps2 : Option Addr) (R : Ending → World → Prop) (w : World) : Prop :=
 Calls P F.«slices_medianOrdered_uint32» ⟨[.slice data0 data0l data0c, .int .i64 (IntKind.wrap .i64 (a1 - 1)), .int .i64 a1, .int .i64 (IntKind.wrap .i64 (a1 + 1)), .pointer swaps2]⟩ w fun e14 w14 => ∃ n14 : Int, e14 = .returned (.int .i64 n14) ∧
 R (.returned (.int .i64 n14)) w14
def plan_slices_medianAdjacentOrdered_uint32 : Plan := { loops := fun i => match i with | _ => ([], []), cuts := fun i => match i with | _ => none, head := fun i => match i with | _ => none, rng := fun i => match i with | _ => [] }
theorem ok_slices_medianAdjacentOrdered_uint32 {data0 : Option Addr} {data0l data0c : Nat} {a1 : Int} {swaps2 : Option Addr} {R : Ending → World → Prop} {w : World} (h : V_slices_medianAdjacentOrdered_uint32 data0 data0l data0c a1 swaps2 R w) : Calls P F.«slices_medianAdjacentOrdered_uint32» ⟨[.slice data0 data0l data0c, .int .i64 a1, .pointer swaps2]⟩ w R :=
  calls_of_vc tabOk bdOk mixed (fn := Try.f71) (c := bodyOf Try.f71) (pl := plan_slices_medianAdjacentOrdered_uint32) Try.func71 (by kernel_rfl) (Nat.le_of_ble_eq_true (by kernel_rfl)) (by kernel_rfl)
    (Eq.mp (show V_slices_medianAdjacentOrdered_uint32 data0 data0l data0c a1 swaps2 R w = vcFun P Tb Bd plan_slices_medianAdjacentOrdered_uint32 (raw Try.f71.ntmps) Try.f71.results.toList (bodyOf Try.f71) [.slice data0 data0l data0c, .int .i64 a1, .pointer swaps2] R w by kernel_rfl) h)

def V_slices_medianOrdered_uint32 (data0 : Option Addr) (data0l data0c : Nat) (a1 : Int) (b2 : Int) (c3 : Int) (swaps4 : Option Addr) (R : Ending → World → Prop) (w : World) : Prop :=
 Calls P F.«slices_order2Ordered_uint32» ⟨[.slice data0 data0l data0c, .int .i64 a1, .int .i64 b2, .pointer swaps4]⟩ w fun e16 w16 => ∃ n16_a : Int, ∃ n16_b : Int, e16 = .returned (.tuple ⟨[.int .i64 n16_a, .int .i64 n16_b]⟩) ∧
 Calls P F.«slices_order2Ordered_uint32» ⟨[.slice data0 data0l data0c, .int .i64 n16_b, .int .i64 c3, .pointer swaps4]⟩ w16 fun e24 w24 => ∃ n24_a : Int, ∃ n24_b : Int, e24 = .returned (.tuple ⟨[.int .i64 n24_a, .int .i64 n24_b]⟩) ∧
 Calls P F.«slices_order2Ordered_uint32» ⟨[.slice data0 data0l data0c, .int .i64 n16_a, .int .i64 n24_a, .pointer swaps4]⟩ w24 fun e32 w32 => ∃ n32_a : Int, ∃ n32_b : Int, e32 = .returned (.tuple ⟨[.int .i64 n32_a, .int .i64 n32_b]⟩) ∧
 R (.returned (.int .i64 n32_b)) w32
def plan_slices_medianOrdered_uint32 : Plan := { loops := fun i => match i with | _ => ([], []), cuts := fun i => match i with | _ => none, head := fun i => match i with | _ => none, rng := fun i => match i with | _ => [] }
theorem ok_slices_medianOrdered_uint32 {data0 : Option Addr} {data0l data0c : Nat} {a1 : Int} {b2 : Int} {c3 : Int} {swaps4 : Option Addr} {R : Ending → World → Prop} {w : World} (h : V_slices_medianOrdered_uint32 data0 data0l data0c a1 b2 c3 swaps4 R w) : Calls P F.«slices_medianOrdered_uint32» ⟨[.slice data0 data0l data0c, .int .i64 a1, .int .i64 b2, .int .i64 c3, .pointer swaps4]⟩ w R :=
  calls_of_vc tabOk bdOk mixed (fn := Try.f72) (c := bodyOf Try.f72) (pl := plan_slices_medianOrdered_uint32) Try.func72 (by kernel_rfl) (Nat.le_of_ble_eq_true (by kernel_rfl)) (by kernel_rfl)
    (Eq.mp (show V_slices_medianOrdered_uint32 data0 data0l data0c a1 b2 c3 swaps4 R w = vcFun P Tb Bd plan_slices_medianOrdered_uint32 (raw Try.f72.ntmps) Try.f72.results.toList (bodyOf Try.f72) [.slice data0 data0l data0c, .int .i64 a1, .int .i64 b2, .int .i64 c3, .pointer swaps4] R w by kernel_rfl) h)

def V_cmp_isNaN_uint32 (x0 : Int) (R : Ending → World → Prop) (w : World) : Prop :=
 R (.returned (.bool (x0 != x0))) w
def plan_cmp_isNaN_uint32 : Plan := { loops := fun i => match i with | _ => ([], []), cuts := fun i => match i with | _ => none, head := fun i => match i with | _ => none, rng := fun i => match i with | _ => [] }
theorem ok_cmp_isNaN_uint32 {x0 : Int} {R : Ending → World → Prop} {w : World} (h : V_cmp_isNaN_uint32 x0 R w) : Calls P F.«cmp_isNaN_uint32» ⟨[.int .u32 x0]⟩ w R :=
  calls_of_vc tabOk bdOk mixed (fn := Try.f73) (c := bodyOf Try.f73) (pl := plan_cmp_isNaN_uint32) Try.func73 (by kernel_rfl) (Nat.le_of_ble_eq_true (by kernel_rfl)) (by kernel_rfl)
    (Eq.mp (show V_cmp_isNaN_uint32 x0 R w = vcFun P Tb Bd plan_cmp_isNaN_uint32 (raw Try.f73.ntmps) Try.f73.results.toList (bodyOf Try.f73) [.int .u32 x0] R w by kernel_rfl) h)

def V_slices_order2Ordered_uint32 (data0 : Option Addr) (data0l data0c : Nat) (a1 : Int) (b2 : Int) (swaps3 : Option Addr) (R : Ending → World → Prop) (w : World) : Prop :=
 (0 ≤ b2 ∧ b2 < (data0l : Int)) ∧
 ptrW data0 fun a12 =>
 ∃ n13 : Int, w.cell? (a12.add (b2.toNat * 1)) = some (.int .u32 n13) ∧
 (0 ≤ a1 ∧ a1 < (data0l : Int)) ∧
 ptrW data0 fun a16 =>
 ∃ n17 : Int, w.cell? (a16.add (a1.toNat * 1)) = some (.int .u32 n17) ∧
 ∀ wd1, Drew w wd1 →
 Calls P F.«cmp_Less_uint32» ⟨[.int .u32 n13, .int .u32 n17]⟩ wd1 fun e18 w18 => ∃ b18 : Bool, e18 = .returned (.bool b18) ∧
 bcase b18 (
  ptrW swaps3 fun a20 =>
  ∃ n21 : Int, w18.cell? a20 = some (.int .i64 n21) ∧
  ptrW swaps3 fun a23 =>
  (∃ old, w18.cell? (a23.add 0) = some old) ∧ w18.frozen? (a23.add 0) = false ∧
  letW (w18.setCell (a23.add 0) (.int .i64 (IntKind.wrap .i64 (n21 + 1)))) fun u0 =>
  R (.returned (.tuple ⟨[.int .i64 b2, .int .i64 a1]⟩)) u0)
 (R (.returned (.tuple ⟨[.int .i64 a1, .int .i64 b2]⟩)) w18)
def plan_slices_order2Ordered_uint32 : Plan := { loops := fun i => match i with | _ => ([], []), cuts := fun i => match i with | _ => none, head := fun i => match i with | 1 => some ([], [0, 1, 2, 3, 4, 5, 6, 7], [8]) | _ => none, rng := fun i => match i with | _ => [] }
theorem ok_slices_order2Ordered_uint32 {data0 : Option Addr} {data0l data0c : Nat} {a1 : Int} {b2 : Int} {swaps3 : Option Addr} {R : Ending → World → Prop} {w : World} (h : V_slices_order2Ordered_uint32 data0 data0l data0c a1 b2 swaps3 R w) : Calls P F.«slices_order2Ordered_uint32» ⟨[.slice data0 data0l data0c, .int .i64 a1, .int .i64 b2, .pointer swaps3]⟩ w R :=
  calls_of_vc tabOk bdOk mixed (fn := Try.f74) (c := bodyOf Try.f74) (pl := plan_slices_order2Ordered_uint32) Try.func74 (by kernel_rfl) (Nat.le_of_ble_eq_true (by kernel_rfl)) (by kernel_rfl)
    (Eq.mp (show V_slices_order2Ordered_uint32 data0 data0l data0c a1 b2 swaps3 R w = vcFun P Tb Bd plan_slices_order2Ordered_uint32 (raw Try.f74.ntmps) Try.f74.results.toList (bodyOf Try.f74) [.slice data0 data0l data0c, .int .i64 a1, .int .i64 b2, .pointer swaps3] R w by kernel_rfl) h)

end Go.Proofs.Ytgepmlgkeljelaa.Vc
