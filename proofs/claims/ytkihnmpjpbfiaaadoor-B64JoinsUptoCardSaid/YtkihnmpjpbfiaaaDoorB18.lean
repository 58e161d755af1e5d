/- The contracts of the reference's Hex, Number, TakeNumber. -/
import Derived.Test.YtkihnmpjpbfiaaaDoorB17
import Derived.Lib.SmallJoins
set_option linter.unusedVariables false
set_option linter.unusedSimpArgs false
namespace Go.Proofs.YtkihnmpjpbfiaaaDoor.Mine
open Go Go.Proofs.YtkihnmpjpbfiaaaDoor.Ev Go.Proofs
set_option maxRecDepth 100000

/-! ### The reference's Hex -/
inductive RHR (s : ByteArray) (y : UX) : Prop where
  | mk (h1 : y.i ≤ s.size) (h2 : y.l ++ encL 4 Hx.tb (s.data.toList.drop y.i) = encL 4 Hx.tb s.data.toList) (h3 : y.l.length ≤ 2 * y.i)
def rhInv (s : ByteArray) : LInv := { σ := UX, st := fun x => ⟨(((List.replicate 26 .u).set 0 (.str s)).set 3 (.s 0 1 (.l 0) (.e x.l.length))).set 4 (.i .i64 x.i), [.row (some 5) (.bytes x.l)], []⟩, m := fun x => s.size - x.i, rel := fun _ y => RHR s y }
def howRh (s : ByteArray) : Nat → How := fun _ => .inv (rhInv s)

theorem rh_vc  (s : ByteArray) : (awp C0 (howRh s) (bodyOf Tryd.f17) ⟨[.str s] ++ List.replicate 25 .u, [], []⟩ (finA C0.P Tryd.f17 0 (.str (hexS s)) [])) =
    (True ∧ True ∧ True ∧ ∃ (x0 : Go.Proofs.YtkihnmpjpbfiaaaDoor.Mine.UX), Go.Proofs.YtkihnmpjpbfiaaaDoor.Mine.RHR s x0 ∧ ((s = s ∧ True ∧ True ∧ ((0 : Nat) = (0 : Nat) ∧ List.length (Go.Proofs.YtkihnmpjpbfiaaaDoor.Mine.UX.l x0) = (0 : Nat)) ∧ (0 : Int) = (↑(Go.Proofs.YtkihnmpjpbfiaaaDoor.Mine.UX.i x0) : Int) ∧ True ∧ True ∧ True ∧ True ∧ True ∧ True ∧ True ∧ True ∧ True ∧ True ∧ True ∧ True ∧ True ∧ True ∧ True ∧ True ∧ True ∧ True ∧ True ∧ True ∧ True ∧ True) ∧ True ∧ List.length (Go.Proofs.YtkihnmpjpbfiaaaDoor.Mine.UX.l x0) = (0 : Nat) ∧ True) ∧ ∀ (y : Go.Proofs.YtkihnmpjpbfiaaaDoor.Mine.UX), Go.Proofs.YtkihnmpjpbfiaaaDoor.Mine.RHR s y → True ∧ True ∧ True ∧ True ∧ (Decidable.decide ((↑(Go.Proofs.YtkihnmpjpbfiaaaDoor.Mine.UX.i y) : Int) < (↑(ByteArray.size s) : Int)) = Bool.true → True ∧ True ∧ True ∧ ((0 : Int) ≤ (↑(Go.Proofs.YtkihnmpjpbfiaaaDoor.Mine.UX.i y) : Int) ∧ (↑(Go.Proofs.YtkihnmpjpbfiaaaDoor.Mine.UX.i y) : Int) < (↑(ByteArray.size s) : Int)) ∧ True ∧ ((0 : Int) ≤ Int.fdiv (↑(UInt8.toNat (match (Array.toList (ByteArray.data s))[Int.toNat (↑(Go.Proofs.YtkihnmpjpbfiaaaDoor.Mine.UX.i y) : Int)]? with | Option.some x => x | Option.none => (0 : UInt8))) : Int) (16 : Int) ∧ Int.fdiv (↑(UInt8.toNat (match (Array.toList (ByteArray.data s))[Int.toNat (↑(Go.Proofs.YtkihnmpjpbfiaaaDoor.Mine.UX.i y) : Int)]? with | Option.some x => x | Option.none => (0 : UInt8))) : Int) (16 : Int) < (16 : Int)) ∧ True ∧ True ∧ ((0 : Int) ≤ (↑(Go.Proofs.YtkihnmpjpbfiaaaDoor.Mine.UX.i y) : Int) ∧ (↑(Go.Proofs.YtkihnmpjpbfiaaaDoor.Mine.UX.i y) : Int) < (↑(ByteArray.size s) : Int)) ∧ True ∧ ((0 : Int) ≤ Go.IntKind.wrap Go.IntKind.u8 (↑(BitVec.toNat (BitVec.ofInt (8 : Nat) (↑(UInt8.toNat (match (Array.toList (ByteArray.data s))[Int.toNat (↑(Go.Proofs.YtkihnmpjpbfiaaaDoor.Mine.UX.i y) : Int)]? with | Option.some x => x | Option.none => (0 : UInt8))) : Int) &&& BitVec.ofInt (8 : Nat) (15 : Int))) : Int) ∧ Go.IntKind.wrap Go.IntKind.u8 (↑(BitVec.toNat (BitVec.ofInt (8 : Nat) (↑(UInt8.toNat (match (Array.toList (ByteArray.data s))[Int.toNat (↑(Go.Proofs.YtkihnmpjpbfiaaaDoor.Mine.UX.i y) : Int)]? with | Option.some x => x | Option.none => (0 : UInt8))) : Int) &&& BitVec.ofInt (8 : Nat) (15 : Int))) : Int) < (16 : Int)) ∧ True ∧ ((((0 : Int) ≤ (↑(UInt8.toNat (match [(48 : UInt8), (49 : UInt8), (50 : UInt8), (51 : UInt8), (52 : UInt8), (53 : UInt8), (54 : UInt8), (55 : UInt8), (56 : UInt8), (57 : UInt8), (97 : UInt8), (98 : UInt8), (99 : UInt8), (100 : UInt8), (101 : UInt8), (102 : UInt8)][Int.toNat (Int.fdiv (↑(UInt8.toNat (match (Array.toList (ByteArray.data s))[Int.toNat (↑(Go.Proofs.YtkihnmpjpbfiaaaDoor.Mine.UX.i y) : Int)]? with | Option.some x => x | Option.none => (0 : UInt8))) : Int) (16 : Int))]? with | Option.some x => x | Option.none => (0 : UInt8))) : Int) ∧ (↑(UInt8.toNat (match [(48 : UInt8), (49 : UInt8), (50 : UInt8), (51 : UInt8), (52 : UInt8), (53 : UInt8), (54 : UInt8), (55 : UInt8), (56 : UInt8), (57 : UInt8), (97 : UInt8), (98 : UInt8), (99 : UInt8), (100 : UInt8), (101 : UInt8), (102 : UInt8)][Int.toNat (Int.fdiv (↑(UInt8.toNat (match (Array.toList (ByteArray.data s))[Int.toNat (↑(Go.Proofs.YtkihnmpjpbfiaaaDoor.Mine.UX.i y) : Int)]? with | Option.some x => x | Option.none => (0 : UInt8))) : Int) (16 : Int))]? with | Option.some x => x | Option.none => (0 : UInt8))) : Int) < (256 : Int)) ∧ ((0 : Int) ≤ (↑(UInt8.toNat (match [(48 : UInt8), (49 : UInt8), (50 : UInt8), (51 : UInt8), (52 : UInt8), (53 : UInt8), (54 : UInt8), (55 : UInt8), (56 : UInt8), (57 : UInt8), (97 : UInt8), (98 : UInt8), (99 : UInt8), (100 : UInt8), (101 : UInt8), (102 : UInt8)][Int.toNat (Go.IntKind.wrap Go.IntKind.u8 (↑(BitVec.toNat (BitVec.ofInt (8 : Nat) (↑(UInt8.toNat (match (Array.toList (ByteArray.data s))[Int.toNat (↑(Go.Proofs.YtkihnmpjpbfiaaaDoor.Mine.UX.i y) : Int)]? with | Option.some x => x | Option.none => (0 : UInt8))) : Int) &&& BitVec.ofInt (8 : Nat) (15 : Int))) : Int))]? with | Option.some x => x | Option.none => (0 : UInt8))) : Int) ∧ (↑(UInt8.toNat (match [(48 : UInt8), (49 : UInt8), (50 : UInt8), (51 : UInt8), (52 : UInt8), (53 : UInt8), (54 : UInt8), (55 : UInt8), (56 : UInt8), (57 : UInt8), (97 : UInt8), (98 : UInt8), (99 : UInt8), (100 : UInt8), (101 : UInt8), (102 : UInt8)][Int.toNat (Go.IntKind.wrap Go.IntKind.u8 (↑(BitVec.toNat (BitVec.ofInt (8 : Nat) (↑(UInt8.toNat (match (Array.toList (ByteArray.data s))[Int.toNat (↑(Go.Proofs.YtkihnmpjpbfiaaaDoor.Mine.UX.i y) : Int)]? with | Option.some x => x | Option.none => (0 : UInt8))) : Int) &&& BitVec.ofInt (8 : Nat) (15 : Int))) : Int))]? with | Option.some x => x | Option.none => (0 : UInt8))) : Int) < (256 : Int)) ∧ True) ∧ (0 : Nat) + List.length (Go.Proofs.YtkihnmpjpbfiaaaDoor.Mine.UX.l y) = List.length (Go.Proofs.YtkihnmpjpbfiaaaDoor.Mine.UX.l y) ∧ List.length (List.take (List.length (Go.Proofs.YtkihnmpjpbfiaaaDoor.Mine.UX.l y)) (List.drop (0 : Nat) (Go.Proofs.YtkihnmpjpbfiaaaDoor.Mine.UX.l y)) ++ [UInt8.ofNat (Int.toNat (↑(UInt8.toNat (match [(48 : UInt8), (49 : UInt8), (50 : UInt8), (51 : UInt8), (52 : UInt8), (53 : UInt8), (54 : UInt8), (55 : UInt8), (56 : UInt8), (57 : UInt8), (97 : UInt8), (98 : UInt8), (99 : UInt8), (100 : UInt8), (101 : UInt8), (102 : UInt8)][Int.toNat (Int.fdiv (↑(UInt8.toNat (match (Array.toList (ByteArray.data s))[Int.toNat (↑(Go.Proofs.YtkihnmpjpbfiaaaDoor.Mine.UX.i y) : Int)]? with | Option.some x => x | Option.none => (0 : UInt8))) : Int) (16 : Int))]? with | Option.some x => x | Option.none => (0 : UInt8))) : Int)), UInt8.ofNat (Int.toNat (↑(UInt8.toNat (match [(48 : UInt8), (49 : UInt8), (50 : UInt8), (51 : UInt8), (52 : UInt8), (53 : UInt8), (54 : UInt8), (55 : UInt8), (56 : UInt8), (57 : UInt8), (97 : UInt8), (98 : UInt8), (99 : UInt8), (100 : UInt8), (101 : UInt8), (102 : UInt8)][Int.toNat (Go.IntKind.wrap Go.IntKind.u8 (↑(BitVec.toNat (BitVec.ofInt (8 : Nat) (↑(UInt8.toNat (match (Array.toList (ByteArray.data s))[Int.toNat (↑(Go.Proofs.YtkihnmpjpbfiaaaDoor.Mine.UX.i y) : Int)]? with | Option.some x => x | Option.none => (0 : UInt8))) : Int) &&& BitVec.ofInt (8 : Nat) (15 : Int))) : Int))]? with | Option.some x => x | Option.none => (0 : UInt8))) : Int))]) * (1 : Nat) ≤ (140737488355328 : Nat)) ∧ True ∧ Bool.true = Bool.true ∧ True ∧ True ∧ True ∧ ∃ (y' : Go.Proofs.YtkihnmpjpbfiaaaDoor.Mine.UX), ByteArray.size s - Go.Proofs.YtkihnmpjpbfiaaaDoor.Mine.UX.i y' < ByteArray.size s - Go.Proofs.YtkihnmpjpbfiaaaDoor.Mine.UX.i y ∧ Go.Proofs.YtkihnmpjpbfiaaaDoor.Mine.RHR s y' ∧ (s = s ∧ True ∧ True ∧ ((0 : Nat) = (0 : Nat) ∧ List.length (List.take (List.length (Go.Proofs.YtkihnmpjpbfiaaaDoor.Mine.UX.l y)) (List.drop (0 : Nat) (Go.Proofs.YtkihnmpjpbfiaaaDoor.Mine.UX.l y)) ++ [UInt8.ofNat (Int.toNat (↑(UInt8.toNat (match [(48 : UInt8), (49 : UInt8), (50 : UInt8), (51 : UInt8), (52 : UInt8), (53 : UInt8), (54 : UInt8), (55 : UInt8), (56 : UInt8), (57 : UInt8), (97 : UInt8), (98 : UInt8), (99 : UInt8), (100 : UInt8), (101 : UInt8), (102 : UInt8)][Int.toNat (Int.fdiv (↑(UInt8.toNat (match (Array.toList (ByteArray.data s))[Int.toNat (↑(Go.Proofs.YtkihnmpjpbfiaaaDoor.Mine.UX.i y) : Int)]? with | Option.some x => x | Option.none => (0 : UInt8))) : Int) (16 : Int))]? with | Option.some x => x | Option.none => (0 : UInt8))) : Int)), UInt8.ofNat (Int.toNat (↑(UInt8.toNat (match [(48 : UInt8), (49 : UInt8), (50 : UInt8), (51 : UInt8), (52 : UInt8), (53 : UInt8), (54 : UInt8), (55 : UInt8), (56 : UInt8), (57 : UInt8), (97 : UInt8), (98 : UInt8), (99 : UInt8), (100 : UInt8), (101 : UInt8), (102 : UInt8)][Int.toNat (Go.IntKind.wrap Go.IntKind.u8 (↑(BitVec.toNat (BitVec.ofInt (8 : Nat) (↑(UInt8.toNat (match (Array.toList (ByteArray.data s))[Int.toNat (↑(Go.Proofs.YtkihnmpjpbfiaaaDoor.Mine.UX.i y) : Int)]? with | Option.some x => x | Option.none => (0 : UInt8))) : Int) &&& BitVec.ofInt (8 : Nat) (15 : Int))) : Int))]? with | Option.some x => x | Option.none => (0 : UInt8))) : Int))]) = List.length (Go.Proofs.YtkihnmpjpbfiaaaDoor.Mine.UX.l y')) ∧ Go.IntKind.wrap Go.IntKind.i64 ((↑(Go.Proofs.YtkihnmpjpbfiaaaDoor.Mine.UX.i y) : Int) + (1 : Int)) = (↑(Go.Proofs.YtkihnmpjpbfiaaaDoor.Mine.UX.i y') : Int) ∧ True ∧ True ∧ True ∧ True ∧ True ∧ True ∧ True ∧ True ∧ True ∧ True ∧ True ∧ True ∧ True ∧ True ∧ True ∧ True ∧ True ∧ True ∧ True ∧ True ∧ True ∧ True) ∧ True ∧ Go.Proofs.YtkihnmpjpbfiaaaDoor.Ev.RC.bytes (List.take (List.length (Go.Proofs.YtkihnmpjpbfiaaaDoor.Mine.UX.l y)) (List.drop (0 : Nat) (Go.Proofs.YtkihnmpjpbfiaaaDoor.Mine.UX.l y)) ++ [UInt8.ofNat (Int.toNat (↑(UInt8.toNat (match [(48 : UInt8), (49 : UInt8), (50 : UInt8), (51 : UInt8), (52 : UInt8), (53 : UInt8), (54 : UInt8), (55 : UInt8), (56 : UInt8), (57 : UInt8), (97 : UInt8), (98 : UInt8), (99 : UInt8), (100 : UInt8), (101 : UInt8), (102 : UInt8)][Int.toNat (Int.fdiv (↑(UInt8.toNat (match (Array.toList (ByteArray.data s))[Int.toNat (↑(Go.Proofs.YtkihnmpjpbfiaaaDoor.Mine.UX.i y) : Int)]? with | Option.some x => x | Option.none => (0 : UInt8))) : Int) (16 : Int))]? with | Option.some x => x | Option.none => (0 : UInt8))) : Int)), UInt8.ofNat (Int.toNat (↑(UInt8.toNat (match [(48 : UInt8), (49 : UInt8), (50 : UInt8), (51 : UInt8), (52 : UInt8), (53 : UInt8), (54 : UInt8), (55 : UInt8), (56 : UInt8), (57 : UInt8), (97 : UInt8), (98 : UInt8), (99 : UInt8), (100 : UInt8), (101 : UInt8), (102 : UInt8)][Int.toNat (Go.IntKind.wrap Go.IntKind.u8 (↑(BitVec.toNat (BitVec.ofInt (8 : Nat) (↑(UInt8.toNat (match (Array.toList (ByteArray.data s))[Int.toNat (↑(Go.Proofs.YtkihnmpjpbfiaaaDoor.Mine.UX.i y) : Int)]? with | Option.some x => x | Option.none => (0 : UInt8))) : Int) &&& BitVec.ofInt (8 : Nat) (15 : Int))) : Int))]? with | Option.some x => x | Option.none => (0 : UInt8))) : Int))]) = Go.Proofs.YtkihnmpjpbfiaaaDoor.Ev.RC.bytes (Go.Proofs.YtkihnmpjpbfiaaaDoor.Mine.UX.l y') ∧ True) ∧ (Decidable.decide ((↑(Go.Proofs.YtkihnmpjpbfiaaaDoor.Mine.UX.i y) : Int) < (↑(ByteArray.size s) : Int)) = Bool.false → True ∧ (0 : Nat) + List.length (Go.Proofs.YtkihnmpjpbfiaaaDoor.Mine.UX.l y) ≤ List.length (Go.Proofs.YtkihnmpjpbfiaaaDoor.Mine.UX.l y) ∧ True ∧ (ByteArray.mk (List.toArray (List.take (List.length (Go.Proofs.YtkihnmpjpbfiaaaDoor.Mine.UX.l y)) (List.drop (0 : Nat) (Go.Proofs.YtkihnmpjpbfiaaaDoor.Mine.UX.l y)))) = Go.Proofs.YtkihnmpjpbfiaaaDoor.Mine.hexS s ∧ True) ∧ True ∧ True)) := by kernel_rfl

/-! ### The reference's Number -/
structure NX where
  n : Int
  t : ByteArray
inductive RNR (n : Int) (y : NX) : Prop where
  | mk (h0 : 0 ≤ y.n) (h1 : y.n < 2 ^ 63) (h2 : y.t.size ≤ 20) (h3 : y.n ≤ 9 → y.t = numT n) (h4 : 9 < y.n → ∃ k, k + y.t.size ≤ 20 ∧ y.n / 10 < 10 ^ k ∧ digs k (y.n / 10) y.t.data.toList = digs 20 n [])
def rnInv (n : Int) : LInv := { σ := NX, st := fun x => ⟨((List.replicate 26 .u).set 0 (.i .i64 x.n)).set 4 (.str x.t), [], []⟩, m := fun x => x.n.toNat, rel := fun _ y => RNR n y }
def howRn (n : Int) : Nat → How := fun _ => .inv (rnInv n)

theorem rn_vc  (n : Int) : (awp C0 (howRn n) (bodyOf Tryd.f19) ⟨[.i .i64 n] ++ List.replicate 25 .u, [], []⟩ (finA C0.P Tryd.f19 0 (numVal n) [])) =
    (True ∧ True ∧ True ∧ True ∧ (Decidable.decide (n < (0 : Int)) = Bool.true → True ∧ True ∧ ((ByteArray.mk #[] = Go.Proofs.YtkihnmpjpbfiaaaDoor.Mine.numT n ∧ Bool.false = Decidable.decide ((0 : Int) ≤ n) ∧ True) ∧ True) ∧ True ∧ True) ∧ (Decidable.decide (n < (0 : Int)) = Bool.false → True ∧ True ∧ True ∧ True ∧ True ∧ (((0 : Int) ≤ Go.IntKind.wrap Go.IntKind.u8 (Go.IntKind.wrap Go.IntKind.i64 ((48 : Int) + Int.tmod n (10 : Int))) ∧ Go.IntKind.wrap Go.IntKind.u8 (Go.IntKind.wrap Go.IntKind.i64 ((48 : Int) + Int.tmod n (10 : Int))) < (256 : Int)) ∧ True) ∧ True ∧ ∃ (x0 : Go.Proofs.YtkihnmpjpbfiaaaDoor.Mine.NX), Go.Proofs.YtkihnmpjpbfiaaaDoor.Mine.RNR n x0 ∧ ((n = Go.Proofs.YtkihnmpjpbfiaaaDoor.Mine.NX.n x0 ∧ True ∧ True ∧ True ∧ ByteArray.mk #[UInt8.ofNat (Int.toNat (Go.IntKind.wrap Go.IntKind.u8 (Go.IntKind.wrap Go.IntKind.i64 ((48 : Int) + Int.tmod n (10 : Int)))))] = Go.Proofs.YtkihnmpjpbfiaaaDoor.Mine.NX.t x0 ∧ True ∧ True ∧ True ∧ True ∧ True ∧ True ∧ True ∧ True ∧ True ∧ True ∧ True ∧ True ∧ True ∧ True ∧ True ∧ True ∧ True ∧ True ∧ True ∧ True ∧ True ∧ True) ∧ True ∧ True) ∧ ∀ (y : Go.Proofs.YtkihnmpjpbfiaaaDoor.Mine.NX), Go.Proofs.YtkihnmpjpbfiaaaDoor.Mine.RNR n y → True ∧ True ∧ (Decidable.decide (Go.Proofs.YtkihnmpjpbfiaaaDoor.Mine.NX.n y > (9 : Int)) = Bool.true → True ∧ True ∧ True ∧ True ∧ True ∧ True ∧ True ∧ True ∧ (((0 : Int) ≤ Go.IntKind.wrap Go.IntKind.u8 (Go.IntKind.wrap Go.IntKind.i64 ((48 : Int) + Int.tmod (Go.IntKind.wrap Go.IntKind.i64 (Int.tdiv (Go.Proofs.YtkihnmpjpbfiaaaDoor.Mine.NX.n y) (10 : Int))) (10 : Int))) ∧ Go.IntKind.wrap Go.IntKind.u8 (Go.IntKind.wrap Go.IntKind.i64 ((48 : Int) + Int.tmod (Go.IntKind.wrap Go.IntKind.i64 (Int.tdiv (Go.Proofs.YtkihnmpjpbfiaaaDoor.Mine.NX.n y) (10 : Int))) (10 : Int))) < (256 : Int)) ∧ True) ∧ True ∧ (↑((1 : Nat) + ByteArray.size (Go.Proofs.YtkihnmpjpbfiaaaDoor.Mine.NX.t y)) : Int) ≤ (9223372036854775807 : Int) ∧ True ∧ ∃ (y' : Go.Proofs.YtkihnmpjpbfiaaaDoor.Mine.NX), Int.toNat (Go.Proofs.YtkihnmpjpbfiaaaDoor.Mine.NX.n y') < Int.toNat (Go.Proofs.YtkihnmpjpbfiaaaDoor.Mine.NX.n y) ∧ Go.Proofs.YtkihnmpjpbfiaaaDoor.Mine.RNR n y' ∧ (Go.IntKind.wrap Go.IntKind.i64 (Int.tdiv (Go.Proofs.YtkihnmpjpbfiaaaDoor.Mine.NX.n y) (10 : Int)) = Go.Proofs.YtkihnmpjpbfiaaaDoor.Mine.NX.n y' ∧ True ∧ True ∧ True ∧ ByteArray.mk #[UInt8.ofNat (Int.toNat (Go.IntKind.wrap Go.IntKind.u8 (Go.IntKind.wrap Go.IntKind.i64 ((48 : Int) + Int.tmod (Go.IntKind.wrap Go.IntKind.i64 (Int.tdiv (Go.Proofs.YtkihnmpjpbfiaaaDoor.Mine.NX.n y) (10 : Int))) (10 : Int)))))] ++ Go.Proofs.YtkihnmpjpbfiaaaDoor.Mine.NX.t y = Go.Proofs.YtkihnmpjpbfiaaaDoor.Mine.NX.t y' ∧ True ∧ True ∧ True ∧ True ∧ True ∧ True ∧ True ∧ True ∧ True ∧ True ∧ True ∧ True ∧ True ∧ True ∧ True ∧ True ∧ True ∧ True ∧ True ∧ True ∧ True ∧ True) ∧ True ∧ True) ∧ (Decidable.decide (Go.Proofs.YtkihnmpjpbfiaaaDoor.Mine.NX.n y > (9 : Int)) = Bool.false → True ∧ True ∧ True ∧ ((Go.Proofs.YtkihnmpjpbfiaaaDoor.Mine.NX.t y = Go.Proofs.YtkihnmpjpbfiaaaDoor.Mine.numT n ∧ Bool.true = Decidable.decide ((0 : Int) ≤ n) ∧ True) ∧ True) ∧ True ∧ True))) := by kernel_rfl

/-! ### The reference's TakeNumber -/
def rparse : List UInt8 → Int → Option Int
  | [], n => some n
  | b :: r, n => if b.toNat < 48 ∨ 57 < b.toNat ∨ 461168601842738790 < n then none else rparse r (10 * n + ((b.toNat : Int) - 48))
def rtT (s : ByteArray) : Option Int := match rparse s.data.toList 0 with
  | none => none
  | some n => if numT n = s ∧ n ≤ 2 ^ 62 then some n else none
def rtN (s : ByteArray) : Int := (rtT s).getD 0
def rtB (s : ByteArray) : Bool := (rtT s).isSome
structure TX where
  i : Nat
  n : Int
inductive RTR (s : ByteArray) (y : TX) : Prop where
  | mk (h1 : y.i ≤ s.size) (h2 : 0 ≤ y.n) (h3 : y.n ≤ 4611686018427387909) (h4 : rparse (s.data.toList.drop y.i) y.n = rparse s.data.toList 0)
def rtInv (s : ByteArray) : LInv := { σ := TX, st := fun x => ⟨(((List.replicate 53 .u).set 0 (.str s)).set 4 (.i .i64 x.n)).set 5 (.i .i64 x.i), [], []⟩, m := fun x => s.size - x.i, rel := fun _ y => RTR s y }
def howRt (s : ByteArray) : Nat → How := fun _ => .inv (rtInv s)
def lRt : List (FuncId × FSpec) := [(19, plainSpec i64Rest (fun n => n < 2 ^ 63) numVal)]
noncomputable def CRt : Ctx := { P := Tryd.prog, sp := spOf lRt, nm := false }

theorem rt_vc  (s : ByteArray) : (awp CRt (howRt s) (bodyOf Tryd.f21) ⟨[.str s] ++ List.replicate 52 .u, [], []⟩ (finA CRt.P Tryd.f21 0 (.t [.i .i64 (rtN s), .c (rtB s)]) [])) =
    (True ∧ True ∧ True ∧ True ∧ ∃ (x0 : Go.Proofs.YtkihnmpjpbfiaaaDoor.Mine.TX), Go.Proofs.YtkihnmpjpbfiaaaDoor.Mine.RTR s x0 ∧ ((s = s ∧ True ∧ True ∧ True ∧ (0 : Int) = Go.Proofs.YtkihnmpjpbfiaaaDoor.Mine.TX.n x0 ∧ (0 : Int) = (↑(Go.Proofs.YtkihnmpjpbfiaaaDoor.Mine.TX.i x0) : Int) ∧ True ∧ True ∧ True ∧ True ∧ True ∧ True ∧ True ∧ True ∧ True ∧ True ∧ True ∧ True ∧ True ∧ True ∧ True ∧ True ∧ True ∧ True ∧ True ∧ True ∧ True ∧ True ∧ True ∧ True ∧ True ∧ True ∧ True ∧ True ∧ True ∧ True ∧ True ∧ True ∧ True ∧ True ∧ True ∧ True ∧ True ∧ True ∧ True ∧ True ∧ True ∧ True ∧ True ∧ True ∧ True ∧ True ∧ True ∧ True) ∧ True ∧ True) ∧ ∀ (y : Go.Proofs.YtkihnmpjpbfiaaaDoor.Mine.TX), Go.Proofs.YtkihnmpjpbfiaaaDoor.Mine.RTR s y → True ∧ True ∧ True ∧ True ∧ (Decidable.decide ((↑(Go.Proofs.YtkihnmpjpbfiaaaDoor.Mine.TX.i y) : Int) < (↑(ByteArray.size s) : Int)) = Bool.true → True ∧ True ∧ ((0 : Int) ≤ (↑(Go.Proofs.YtkihnmpjpbfiaaaDoor.Mine.TX.i y) : Int) ∧ (↑(Go.Proofs.YtkihnmpjpbfiaaaDoor.Mine.TX.i y) : Int) < (↑(ByteArray.size s) : Int)) ∧ True ∧ True ∧ (Decidable.decide ((↑(UInt8.toNat (match (Array.toList (ByteArray.data s))[Int.toNat (↑(Go.Proofs.YtkihnmpjpbfiaaaDoor.Mine.TX.i y) : Int)]? with | Option.some x => x | Option.none => (0 : UInt8))) : Int) < (48 : Int)) = Bool.false → True ∧ True ∧ ((0 : Int) ≤ (↑(Go.Proofs.YtkihnmpjpbfiaaaDoor.Mine.TX.i y) : Int) ∧ (↑(Go.Proofs.YtkihnmpjpbfiaaaDoor.Mine.TX.i y) : Int) < (↑(ByteArray.size s) : Int)) ∧ True ∧ True ∧ True ∧ (Decidable.decide ((↑(UInt8.toNat (match (Array.toList (ByteArray.data s))[Int.toNat (↑(Go.Proofs.YtkihnmpjpbfiaaaDoor.Mine.TX.i y) : Int)]? with | Option.some x => x | Option.none => (0 : UInt8))) : Int) > (57 : Int)) = Bool.false → True ∧ True ∧ True ∧ (Decidable.decide (Go.Proofs.YtkihnmpjpbfiaaaDoor.Mine.TX.n y > (461168601842738790 : Int)) = Bool.true → True ∧ True ∧ (((0 : Int) = Go.Proofs.YtkihnmpjpbfiaaaDoor.Mine.rtN s ∧ Bool.false = Go.Proofs.YtkihnmpjpbfiaaaDoor.Mine.rtB s ∧ True) ∧ True) ∧ True ∧ True) ∧ (Decidable.decide (Go.Proofs.YtkihnmpjpbfiaaaDoor.Mine.TX.n y > (461168601842738790 : Int)) = Bool.false → True ∧ True ∧ True ∧ True ∧ ((0 : Int) ≤ (↑(Go.Proofs.YtkihnmpjpbfiaaaDoor.Mine.TX.i y) : Int) ∧ (↑(Go.Proofs.YtkihnmpjpbfiaaaDoor.Mine.TX.i y) : Int) < (↑(ByteArray.size s) : Int)) ∧ True ∧ True ∧ True ∧ True ∧ True ∧ True ∧ True ∧ ∃ (y' : Go.Proofs.YtkihnmpjpbfiaaaDoor.Mine.TX), ByteArray.size s - Go.Proofs.YtkihnmpjpbfiaaaDoor.Mine.TX.i y' < ByteArray.size s - Go.Proofs.YtkihnmpjpbfiaaaDoor.Mine.TX.i y ∧ Go.Proofs.YtkihnmpjpbfiaaaDoor.Mine.RTR s y' ∧ (s = s ∧ True ∧ True ∧ True ∧ Go.IntKind.wrap Go.IntKind.i64 (Go.IntKind.wrap Go.IntKind.i64 ((10 : Int) * Go.Proofs.YtkihnmpjpbfiaaaDoor.Mine.TX.n y) + Go.IntKind.wrap Go.IntKind.i64 (Go.IntKind.wrap Go.IntKind.u8 ((↑(UInt8.toNat (match (Array.toList (ByteArray.data s))[Int.toNat (↑(Go.Proofs.YtkihnmpjpbfiaaaDoor.Mine.TX.i y) : Int)]? with | Option.some x => x | Option.none => (0 : UInt8))) : Int) - (48 : Int)))) = Go.Proofs.YtkihnmpjpbfiaaaDoor.Mine.TX.n y' ∧ Go.IntKind.wrap Go.IntKind.i64 ((↑(Go.Proofs.YtkihnmpjpbfiaaaDoor.Mine.TX.i y) : Int) + (1 : Int)) = (↑(Go.Proofs.YtkihnmpjpbfiaaaDoor.Mine.TX.i y') : Int) ∧ True ∧ True ∧ True ∧ True ∧ True ∧ True ∧ True ∧ True ∧ True ∧ True ∧ True ∧ True ∧ True ∧ True ∧ True ∧ True ∧ True ∧ True ∧ True ∧ True ∧ True ∧ True ∧ True ∧ True ∧ True ∧ True ∧ True ∧ True ∧ True ∧ True ∧ True ∧ True ∧ True ∧ True ∧ True ∧ True ∧ True ∧ True ∧ True ∧ True ∧ True ∧ True ∧ True ∧ True ∧ True ∧ True ∧ True ∧ True) ∧ True ∧ True)) ∧ (Decidable.decide ((↑(UInt8.toNat (match (Array.toList (ByteArray.data s))[Int.toNat (↑(Go.Proofs.YtkihnmpjpbfiaaaDoor.Mine.TX.i y) : Int)]? with | Option.some x => x | Option.none => (0 : UInt8))) : Int) > (57 : Int)) = Bool.true → True ∧ True ∧ True ∧ (((0 : Int) = Go.Proofs.YtkihnmpjpbfiaaaDoor.Mine.rtN s ∧ Bool.false = Go.Proofs.YtkihnmpjpbfiaaaDoor.Mine.rtB s ∧ True) ∧ True) ∧ True ∧ True)) ∧ (Decidable.decide ((↑(UInt8.toNat (match (Array.toList (ByteArray.data s))[Int.toNat (↑(Go.Proofs.YtkihnmpjpbfiaaaDoor.Mine.TX.i y) : Int)]? with | Option.some x => x | Option.none => (0 : UInt8))) : Int) < (48 : Int)) = Bool.true → True ∧ True ∧ True ∧ True ∧ True ∧ (((0 : Int) = Go.Proofs.YtkihnmpjpbfiaaaDoor.Mine.rtN s ∧ Bool.false = Go.Proofs.YtkihnmpjpbfiaaaDoor.Mine.rtB s ∧ True) ∧ True) ∧ True ∧ True)) ∧ (Decidable.decide ((↑(Go.Proofs.YtkihnmpjpbfiaaaDoor.Mine.TX.i y) : Int) < (↑(ByteArray.size s) : Int)) = Bool.false → True ∧ Go.Proofs.YtkihnmpjpbfiaaaDoor.Mine.TX.n y < (9223372036854775808 : Int) ∧ True ∧ True ∧ True ∧ True ∧ True ∧ True ∧ True ∧ True ∧ ((!Decidable.decide ((0 : Int) ≤ Go.Proofs.YtkihnmpjpbfiaaaDoor.Mine.TX.n y)) = Bool.false → True ∧ True ∧ True ∧ True ∧ True ∧ ((!ByteArray.toList (Go.Proofs.YtkihnmpjpbfiaaaDoor.Mine.numT (Go.Proofs.YtkihnmpjpbfiaaaDoor.Mine.TX.n y)) == ByteArray.toList s) = Bool.false → True ∧ True ∧ True ∧ (Decidable.decide (Go.Proofs.YtkihnmpjpbfiaaaDoor.Mine.TX.n y > (4611686018427387904 : Int)) = Bool.true → True ∧ True ∧ (((0 : Int) = Go.Proofs.YtkihnmpjpbfiaaaDoor.Mine.rtN s ∧ Bool.false = Go.Proofs.YtkihnmpjpbfiaaaDoor.Mine.rtB s ∧ True) ∧ True) ∧ True ∧ True) ∧ (Decidable.decide (Go.Proofs.YtkihnmpjpbfiaaaDoor.Mine.TX.n y > (4611686018427387904 : Int)) = Bool.false → True ∧ True ∧ True ∧ ((Go.Proofs.YtkihnmpjpbfiaaaDoor.Mine.TX.n y = Go.Proofs.YtkihnmpjpbfiaaaDoor.Mine.rtN s ∧ Bool.true = Go.Proofs.YtkihnmpjpbfiaaaDoor.Mine.rtB s ∧ True) ∧ True) ∧ True ∧ True)) ∧ ((!ByteArray.toList (Go.Proofs.YtkihnmpjpbfiaaaDoor.Mine.numT (Go.Proofs.YtkihnmpjpbfiaaaDoor.Mine.TX.n y)) == ByteArray.toList s) = Bool.true → True ∧ True ∧ True ∧ (((0 : Int) = Go.Proofs.YtkihnmpjpbfiaaaDoor.Mine.rtN s ∧ Bool.false = Go.Proofs.YtkihnmpjpbfiaaaDoor.Mine.rtB s ∧ True) ∧ True) ∧ True ∧ True)) ∧ ((!Decidable.decide ((0 : Int) ≤ Go.Proofs.YtkihnmpjpbfiaaaDoor.Mine.TX.n y)) = Bool.true → True ∧ True ∧ True ∧ True ∧ True ∧ (((0 : Int) = Go.Proofs.YtkihnmpjpbfiaaaDoor.Mine.rtN s ∧ Bool.false = Go.Proofs.YtkihnmpjpbfiaaaDoor.Mine.rtB s ∧ True) ∧ True) ∧ True ∧ True))) := by kernel_rfl

theorem encL4_cons (b : UInt8) (r : List UInt8) : encL 4 Hx.tb (b :: r) = tbAt Hx.tb (b.toNat / 16) :: tbAt Hx.tb (b.toNat % 16) :: encL 4 Hx.tb r := by
  have hb := b.toNat_lt
  unfold encL
  simp [grp, outs]
  refine ⟨?_, ?_⟩
  · congr 1; omega
  · rw [Nat.mod_one]

theorem rh_walk (s : ByteArray) (hs : s.size ≤ 2 ^ 40) : awp C0 (howRh s) (bodyOf Tryd.f17) ⟨[.str s] ++ List.replicate 25 .u, [], []⟩ (finA C0.P Tryd.f17 0 (.str (hexS s)) []) := by
  rw [rh_vc]
  simp only [true_and, and_true, decide_eq_true_eq, decide_eq_false_iff_not, beq_iff_eq, beq_eq_false_iff_ne, bne_iff_ne, bne_eq_false_iff_eq, List.drop_zero, List.take_length, Nat.zero_add]
  have htl : ([48, 49, 50, 51, 52, 53, 54, 55, 56, 57, 97, 98, 99, 100, 101, 102] : List UInt8) = Hx.tb.data.toList := rfl
  rw [htl]
  refine ⟨⟨0, []⟩, ⟨Nat.zero_le _, by simp, Nat.le_refl _⟩, ⟨⟨rfl, rfl⟩, rfl⟩, ?_⟩
  rintro ⟨i, l⟩ ⟨q1, q2, q3⟩
  simp only at q1 q2 q3 ⊢
  refine ⟨fun hi => ?_, fun hi => ?_⟩
  · obtain ⟨b, hb0, hbd⟩ := byte_at (s := s) (i := i) (by omega)
    have hbl := b.toNat_lt
    rw [Int.toNat_natCast, hb0]
    simp only
    have w1 : ((b.toNat : Int)).fdiv 16 = ((b.toNat / 16 : Nat) : Int) := fd b.toNat 16
    have w2 : IntKind.wrap .u8 ((BitVec.ofInt 8 (b.toNat : Int) &&& BitVec.ofInt 8 15).toNat : Int) = ((b.toNat % 16 : Nat) : Int) := by
      have e : (15 : Int) = ((2 ^ 4 - 1 : Nat) : Int) := rfl
      rw [e, BitVec.toNat_and, bvn8 (by omega), bvn8 (by decide), Nat.and_two_pow_sub_one_eq_mod, wrap8 (by omega)]
    rw [w1, w2, Int.toNat_natCast, Int.toNat_natCast]
    obtain ⟨c, hc0, _⟩ := byte_at (s := Hx.tb) (i := b.toNat / 16) (by show _ < 16; omega)
    obtain ⟨d, hd0, _⟩ := byte_at (s := Hx.tb) (i := b.toNat % 16) (by show _ < 16; omega)
    have hcl := c.toNat_lt
    have hdl := d.toNat_lt
    rw [hc0, hd0]
    simp only [Int.toNat_natCast, UInt8.ofNat_toNat]
    have hc : tbAt Hx.tb (b.toNat / 16) = c := by simp [tbAt, List.getD_eq_getElem?_getD, hc0]
    have hd : tbAt Hx.tb (b.toNat % 16) = d := by simp [tbAt, List.getD_eq_getElem?_getD, hd0]
    refine ⟨⟨by omega, by omega⟩, ⟨by omega, by omega⟩, ⟨by omega, by omega⟩, ⟨by omega, by omega⟩, ⟨⟨⟨by omega, by omega⟩, by omega, by omega⟩, by rw [List.length_append]; simp only [List.length_cons, List.length_nil]; omega⟩, ⟨i + 1, l ++ [c, d]⟩, by simp only; omega, ⟨by simp only; omega, ?_, ?_⟩, ⟨rfl, by rw [wrap64 (by omega) (by omega)]; simp only; omega⟩, rfl⟩
    · simp only
      rw [← q2, hbd, encL4_cons, hc, hd]; simp
    · rw [List.length_append]; simp only [List.length_cons, List.length_nil]; omega
  · have hn0 : s.data.toList.drop i = [] := by rw [List.drop_eq_nil_iff, size_eq]; omega
    rw [hn0] at q2
    refine ⟨Nat.le_refl _, ?_⟩
    unfold hexS
    rw [← q2]; simp [encL, grp]
theorem rh_ok : SpecOk Tryd.prog 17 hexSpec :=
  plain_ok (C := C0) (fn := Tryd.f17) (c := bodyOf Tryd.f17) rfl Tryd.func17 (by rfl) sp0_ok mixed (fun _ => rfl) (how := howRh) (fun s hs => rh_walk s hs)
theorem rn_walk (n : Int) (hn : n < 2 ^ 63) : awp C0 (howRn n) (bodyOf Tryd.f19) ⟨[.i .i64 n] ++ List.replicate 25 .u, [], []⟩ (finA C0.P Tryd.f19 0 (numVal n) []) := by
  rw [rn_vc]
  simp only [true_and, and_true, decide_eq_true_eq, decide_eq_false_iff_not, beq_iff_eq, beq_eq_false_iff_ne, bne_iff_ne, bne_eq_false_iff_eq, List.drop_zero, List.take_length, Nat.zero_add]
  refine ⟨fun h => ⟨by simp [numT, h]; rfl, by simp; omega⟩, fun h => ?_⟩
  have h0 : 0 ≤ n := by omega
  rw [wd h0]
  have hnum : numT n = ⟨(digs 20 n []).toArray⟩ := by simp [numT, h]
  refine ⟨⟨by omega, by omega⟩, ⟨n, ⟨#[byteOf (48 + n % 10)]⟩⟩, ⟨h0, hn, by show 1 ≤ 20; decide, fun h9 => ?_, fun h9 => ⟨19, by show 19 + 1 ≤ 20; decide, by simp only; omega, ?_⟩⟩, ⟨rfl, rfl⟩, ?_⟩
  · simp only at h9 ⊢
    rw [hnum]
    have : n / 10 = 0 := by omega
    simp [digs, this]
  · simp only at h9 ⊢
    have : ¬ n / 10 = 0 := by omega
    simp [digs, this]
  · rintro ⟨m, t⟩ ⟨q0, q1, q2, q3, q4⟩
    simp only at q0 q1 q2 q3 q4 ⊢
    have q5 : m / 10 < 2 ^ 63 := by omega
    rw [wq q0 q1, wd (by omega : 0 ≤ m / 10)]
    refine ⟨fun h9 => ⟨⟨by omega, by omega⟩, by omega, ?_⟩, fun h9 => ⟨q3 (by omega), by simp; omega⟩⟩
    obtain ⟨k, k1, k2, k3⟩ := q4 h9
    obtain ⟨k', rfl⟩ : ∃ k', k = k' + 1 := by
      cases k with
      | zero => simp at k2; omega
      | succ k' => exact ⟨k', rfl⟩
    have hpow : (10 : Int) ^ (k' + 1) = 10 ^ k' * 10 := Int.pow_succ 10 k'
    have hdat : (ByteArray.mk #[byteOf (48 + m / 10 % 10)] ++ t).data.toList = byteOf (48 + m / 10 % 10) :: t.data.toList := by
      rw [ByteArray.data_append, Array.toList_append]; rfl
    have hsz : (ByteArray.mk #[byteOf (48 + m / 10 % 10)] ++ t).size = t.size + 1 := by rw [← size_eq, hdat, List.length_cons, size_eq]
    have k3' : (if m / 10 / 10 = 0 then byteOf (48 + m / 10 % 10) :: t.data.toList else digs k' (m / 10 / 10) (byteOf (48 + m / 10 % 10) :: t.data.toList)) = digs 20 n [] := k3
    refine ⟨⟨m / 10, ByteArray.mk #[byteOf (48 + m / 10 % 10)] ++ t⟩, by simp only; omega, ⟨by simp only; omega, by simp only; omega, by simp only; rw [hsz]; omega, fun h => ?_, fun h => ⟨k', by simp only; rw [hsz]; omega, by simp only; omega, ?_⟩⟩, rfl, rfl⟩
    · simp only at h ⊢
      rw [if_pos (by omega)] at k3'
      apply ext_data
      rw [hdat, k3', hnum]
    · simp only at h ⊢
      rw [if_neg (by omega)] at k3'
      rw [hdat, k3']
theorem rn_ok : SpecOk Tryd.prog 19 (plainSpec i64Rest (fun n => n < 2 ^ 63) numVal) :=
  plain_ok (C := C0) (fn := Tryd.f19) (c := bodyOf Tryd.f19) rfl Tryd.func19 (by rfl) sp0_ok mixed (fun _ => rfl) (how := howRn) (fun n hn => rn_walk n hn)
theorem lRt_ok : AllOk Tryd.prog lRt := ⟨⟨by decide, fok rn_ok Tryd.func19 rfl (by kernel_rfl)⟩, trivial⟩
theorem rt_none {s : ByteArray} (h : rtT s = none) : 0 = rtN s ∧ false = rtB s := by simp [rtN, rtB, h]
theorem rt_some {s : ByteArray} {n : Int} (h : rtT s = some n) : n = rtN s ∧ true = rtB s := by simp [rtN, rtB, h]
theorem rt_walk (s : ByteArray) (hs : s.size ≤ 2 ^ 40) : awp CRt (howRt s) (bodyOf Tryd.f21) ⟨[.str s] ++ List.replicate 52 .u, [], []⟩ (finA CRt.P Tryd.f21 0 (.t [.i .i64 (rtN s), .c (rtB s)]) []) := by
  rw [rt_vc]
  simp only [true_and, and_true, decide_eq_true_eq, decide_eq_false_iff_not, beq_iff_eq, beq_eq_false_iff_ne, bne_iff_ne, bne_eq_false_iff_eq, List.drop_zero, List.take_length, Nat.zero_add]
  refine ⟨⟨0, 0⟩, ⟨Nat.zero_le _, Int.le_refl _, by simp only; omega, rfl⟩, ⟨rfl, rfl⟩, ?_⟩
  rintro ⟨i, n⟩ ⟨q1, q2, q3, q4⟩
  simp only at q1 q2 q3 q4 ⊢
  refine ⟨fun hi => ?_, fun hi => ?_⟩
  · obtain ⟨b, hb0, hbd⟩ := byte_at (s := s) (i := i) (by omega)
    have hbl := b.toNat_lt
    rw [Int.toNat_natCast, hb0]
    simp only
    rw [hbd] at q4
    simp only [rparse] at q4
    have bad : (b.toNat < 48 ∨ 57 < b.toNat ∨ 461168601842738790 < n) → 0 = rtN s ∧ false = rtB s := fun h => by
      rw [if_pos h] at q4
      exact rt_none (by simp [rtT, ← q4])
    refine ⟨⟨by omega, by omega⟩, fun h1 => ⟨⟨by omega, by omega⟩, fun h2 => ⟨fun h3 => bad (by omega), fun h3 => ⟨⟨by omega, by omega⟩, ?_⟩⟩, fun h2 => bad (by omega)⟩, fun h1 => bad (by omega)⟩
    rw [if_neg (by omega)] at q4
    have w1 : IntKind.wrap .u8 ((b.toNat : Int) - 48) = (b.toNat : Int) - 48 := by simp [IntKind.wrap, IntKind.bits, IntKind.signed]; omega
    have w2 : IntKind.wrap .i64 (10 * n) = 10 * n := wrap64 (by omega) (by omega)
    have w3 : IntKind.wrap .i64 ((b.toNat : Int) - 48) = (b.toNat : Int) - 48 := wrap64 (by omega) (by omega)
    have w4 : IntKind.wrap .i64 (10 * n + ((b.toNat : Int) - 48)) = 10 * n + ((b.toNat : Int) - 48) := wrap64 (by omega) (by omega)
    rw [w1, w2, w3, w4]
    exact ⟨⟨i + 1, 10 * n + ((b.toNat : Int) - 48)⟩, by simp only; omega, ⟨by simp only; omega, by simp only; omega, by simp only; omega, q4⟩, rfl, by rw [wrap64 (by omega) (by omega)]; simp only; omega⟩
  · have hn0 : s.data.toList.drop i = [] := by rw [List.drop_eq_nil_iff, size_eq]; omega
    rw [hn0] at q4
    simp only [rparse] at q4
    have e : rtT s = if numT n = s ∧ n ≤ 2 ^ 62 then some n else none := by simp [rtT, ← q4]
    refine ⟨by omega, fun _ => ⟨fun h => ?_, fun h => ?_⟩, fun h => ?_⟩
    · have he : numT n = s := toList_inj (by simpa using h)
      refine ⟨fun h2 => rt_none (by rw [e, if_neg (fun h => by omega)]), fun h2 => rt_some (by rw [e, if_pos ⟨he, by omega⟩])⟩
    · refine rt_none ?_
      rw [e, if_neg]
      rintro ⟨h1, _⟩
      rw [h1] at h; simp at h
    · simp at h; omega
theorem rt_ok : SpecOk Tryd.prog 21 (plainSpec strRest (fun s => s.size ≤ 2 ^ 40) (fun s => .t [.i .i64 (rtN s), .c (rtB s)])) :=
  plain_ok (C := CRt) (fn := Tryd.f21) (c := bodyOf Tryd.f21) rfl Tryd.func21 (by rfl) (spOf_ok lRt_ok) mixed (fun _ => rfl) (how := howRt) (fun s hs => rt_walk s hs)

end Go.Proofs.YtkihnmpjpbfiaaaDoor.Mine
