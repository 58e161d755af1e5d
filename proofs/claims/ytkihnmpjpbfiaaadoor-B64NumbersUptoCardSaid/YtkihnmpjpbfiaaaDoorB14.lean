/- The contract of the reference's Encode. -/
import Derived.Test.YtkihnmpjpbfiaaaDoorB13
set_option linter.unusedVariables false
set_option linter.unusedSimpArgs false
namespace Go.Proofs.YtkihnmpjpbfiaaaDoor.Mine.REnc
open Go Go.Proofs.YtkihnmpjpbfiaaaDoor.Ev Go.Proofs Go.Proofs.YtkihnmpjpbfiaaaDoor.Mine
set_option maxRecDepth 100000

/-! ### The reference's Encode -/
def f4 (tl : List UInt8) : List UInt8 := (e64 tl).take 4
theorem e64_f4 : ∀ tl : List UInt8, tl ≠ [] → e64 tl = f4 tl ++ e64 (tl.drop 3)
  | [], h => absurd rfl h
  | [a], _ => rfl
  | [a, b], _ => rfl
  | a :: b :: c :: r, _ => by simp [f4, e64]
def v3 (tl : List UInt8) : Nat → Nat
  | 0 => 0
  | k + 1 => v3 tl k * 256 + (tl.getD k 0).toNat
structure X where
  i : Nat
  l : List UInt8
  k : Nat
def tm0 (tb s : ByteArray) (i : Nat) (n : Nat) : List AV := ((((List.replicate 65 .u).set 0 (.str s)).set 3 (.str tb)).set 4 (.s 0 1 (.l 0) (.e n))).set 5 (.i .i64 i)
def tl (s : ByteArray) (i : Nat) : List UInt8 := s.data.toList.drop i
inductive ORl (s : ByteArray) (y : X) : Prop where
  | mk (h1 : y.i ≤ s.size + 2) (h2 : y.l ++ e64 (tl s y.i) = e64 s.data.toList)
inductive I1 (s : ByteArray) (x y : X) : Prop where
  | mk (h1 : y.i = x.i) (h2 : y.l = x.l) (h3 : y.k ≤ 3)
def mn (s : ByteArray) (i : Nat) : Nat := min (s.size - i) 3 + 1
def oInv (tb s : ByteArray) : LInv := { σ := X, st := fun x => ⟨tm0 tb s x.i x.l.length, [.row (some 5) (.bytes x.l)], []⟩, m := fun x => s.size + 2 - x.i, rel := fun _ y => ORl s y }
def i1Inv (tb s : ByteArray) : LInv := { σ := X, st := fun x => ⟨((tm0 tb s x.i x.l.length).set 6 (.i .i64 (v3 (tl s x.i) x.k))).set 7 (.i .i64 x.k), [.row (some 5) (.bytes x.l)], []⟩, m := fun x => 3 - x.k, rel := fun x y => I1 s x y }
inductive I2 (s : ByteArray) (x y : X) : Prop where
  | mk (h1 : y.i = x.i) (h2 : y.l = x.l) (h3 : y.k ≤ 4)
def i2Inv (tb s : ByteArray) : LInv := { σ := X, st := fun x => ⟨(((tm0 tb s x.i (x.l ++ (f4 (tl s x.i)).take x.k).length).set 6 (.i .i64 (v3 (tl s x.i) 3))).set 8 (.i .i64 (mn s x.i))).set 9 (.i .i64 x.k), [.row (some 5) (.bytes (x.l ++ (f4 (tl s x.i)).take x.k))], []⟩, m := fun x => 4 - x.k, rel := fun x y => I2 s x y }
def how (tb s : ByteArray) : Nat → How := fun id => match id with
  | 4 => .inv (oInv tb s)
  | 8 => .inv (i1Inv tb s)
  | 15 => .inv (i2Inv tb s)
  | _ => .unroll 1

theorem vc  (tb s : ByteArray) : (awp (CV tb) (how tb s) (bodyOf Tryd.f16) ⟨[.str s] ++ List.replicate 64 .u, [], []⟩ (finA (CV tb).P Tryd.f16 0 (.str (encS s)) [])) =
    (True ∧ True ∧ True ∧ True ∧ True ∧ ∃ (x0 : Go.Proofs.YtkihnmpjpbfiaaaDoor.Mine.REnc.X), Go.Proofs.YtkihnmpjpbfiaaaDoor.Mine.REnc.ORl s x0 ∧ ((s = s ∧ True ∧ True ∧ tb = tb ∧ ((0 : Nat) = (0 : Nat) ∧ List.length (Go.Proofs.YtkihnmpjpbfiaaaDoor.Mine.REnc.X.l x0) = (0 : Nat)) ∧ (0 : Int) = (↑(Go.Proofs.YtkihnmpjpbfiaaaDoor.Mine.REnc.X.i x0) : Int) ∧ True ∧ True ∧ True ∧ True ∧ True ∧ True ∧ True ∧ True ∧ True ∧ True ∧ True ∧ True ∧ True ∧ True ∧ True ∧ True ∧ True ∧ True ∧ True ∧ True ∧ True ∧ True ∧ True ∧ True ∧ True ∧ True ∧ True ∧ True ∧ True ∧ True ∧ True ∧ True ∧ True ∧ True ∧ True ∧ True ∧ True ∧ True ∧ True ∧ True ∧ True ∧ True ∧ True ∧ True ∧ True ∧ True ∧ True ∧ True ∧ True ∧ True ∧ True ∧ True ∧ True ∧ True ∧ True ∧ True ∧ True ∧ True ∧ True ∧ True) ∧ True ∧ List.length (Go.Proofs.YtkihnmpjpbfiaaaDoor.Mine.REnc.X.l x0) = (0 : Nat) ∧ True) ∧ ∀ (y : Go.Proofs.YtkihnmpjpbfiaaaDoor.Mine.REnc.X), Go.Proofs.YtkihnmpjpbfiaaaDoor.Mine.REnc.ORl s y → True ∧ True ∧ True ∧ True ∧ (Decidable.decide ((↑(Go.Proofs.YtkihnmpjpbfiaaaDoor.Mine.REnc.X.i y) : Int) < (↑(ByteArray.size s) : Int)) = Bool.true → True ∧ True ∧ ∃ (x0 : Go.Proofs.YtkihnmpjpbfiaaaDoor.Mine.REnc.X), Go.Proofs.YtkihnmpjpbfiaaaDoor.Mine.REnc.I1 s x0 x0 ∧ ((s = s ∧ True ∧ True ∧ tb = tb ∧ ((0 : Nat) = (0 : Nat) ∧ List.length (Go.Proofs.YtkihnmpjpbfiaaaDoor.Mine.REnc.X.l y) = List.length (Go.Proofs.YtkihnmpjpbfiaaaDoor.Mine.REnc.X.l x0)) ∧ (↑(Go.Proofs.YtkihnmpjpbfiaaaDoor.Mine.REnc.X.i y) : Int) = (↑(Go.Proofs.YtkihnmpjpbfiaaaDoor.Mine.REnc.X.i x0) : Int) ∧ (0 : Int) = (↑(Go.Proofs.YtkihnmpjpbfiaaaDoor.Mine.REnc.v3 (Go.Proofs.YtkihnmpjpbfiaaaDoor.Mine.REnc.tl s (Go.Proofs.YtkihnmpjpbfiaaaDoor.Mine.REnc.X.i x0)) (Go.Proofs.YtkihnmpjpbfiaaaDoor.Mine.REnc.X.k x0)) : Int) ∧ (0 : Int) = (↑(Go.Proofs.YtkihnmpjpbfiaaaDoor.Mine.REnc.X.k x0) : Int) ∧ True ∧ True ∧ True ∧ True ∧ True ∧ True ∧ True ∧ True ∧ True ∧ True ∧ True ∧ True ∧ True ∧ True ∧ True ∧ True ∧ True ∧ True ∧ True ∧ True ∧ True ∧ True ∧ True ∧ True ∧ True ∧ True ∧ True ∧ True ∧ True ∧ True ∧ True ∧ True ∧ True ∧ True ∧ True ∧ True ∧ True ∧ True ∧ True ∧ True ∧ True ∧ True ∧ True ∧ True ∧ True ∧ True ∧ True ∧ True ∧ True ∧ True ∧ True ∧ True ∧ True ∧ True ∧ True ∧ True ∧ True ∧ True) ∧ True ∧ Go.Proofs.YtkihnmpjpbfiaaaDoor.Ev.RC.bytes (Go.Proofs.YtkihnmpjpbfiaaaDoor.Mine.REnc.X.l y) = Go.Proofs.YtkihnmpjpbfiaaaDoor.Ev.RC.bytes (Go.Proofs.YtkihnmpjpbfiaaaDoor.Mine.REnc.X.l x0) ∧ True) ∧ ∀ (y_1 : Go.Proofs.YtkihnmpjpbfiaaaDoor.Mine.REnc.X), Go.Proofs.YtkihnmpjpbfiaaaDoor.Mine.REnc.I1 s x0 y_1 → True ∧ True ∧ (Decidable.decide ((↑(Go.Proofs.YtkihnmpjpbfiaaaDoor.Mine.REnc.X.k y_1) : Int) < (3 : Int)) = Bool.true → True ∧ True ∧ True ∧ True ∧ True ∧ True ∧ True ∧ True ∧ True ∧ (Decidable.decide (Go.IntKind.wrap Go.IntKind.i64 ((↑(Go.Proofs.YtkihnmpjpbfiaaaDoor.Mine.REnc.X.i y_1) : Int) + (↑(Go.Proofs.YtkihnmpjpbfiaaaDoor.Mine.REnc.X.k y_1) : Int)) < (↑(ByteArray.size s) : Int)) = Bool.true → True ∧ True ∧ True ∧ True ∧ True ∧ ((0 : Int) ≤ Go.IntKind.wrap Go.IntKind.i64 ((↑(Go.Proofs.YtkihnmpjpbfiaaaDoor.Mine.REnc.X.i y_1) : Int) + (↑(Go.Proofs.YtkihnmpjpbfiaaaDoor.Mine.REnc.X.k y_1) : Int)) ∧ Go.IntKind.wrap Go.IntKind.i64 ((↑(Go.Proofs.YtkihnmpjpbfiaaaDoor.Mine.REnc.X.i y_1) : Int) + (↑(Go.Proofs.YtkihnmpjpbfiaaaDoor.Mine.REnc.X.k y_1) : Int)) < (↑(ByteArray.size s) : Int)) ∧ True ∧ True ∧ True ∧ True ∧ True ∧ True ∧ ∃ (y' : Go.Proofs.YtkihnmpjpbfiaaaDoor.Mine.REnc.X), (3 : Nat) - Go.Proofs.YtkihnmpjpbfiaaaDoor.Mine.REnc.X.k y' < (3 : Nat) - Go.Proofs.YtkihnmpjpbfiaaaDoor.Mine.REnc.X.k y_1 ∧ Go.Proofs.YtkihnmpjpbfiaaaDoor.Mine.REnc.I1 s x0 y' ∧ (s = s ∧ True ∧ True ∧ tb = tb ∧ ((0 : Nat) = (0 : Nat) ∧ List.length (Go.Proofs.YtkihnmpjpbfiaaaDoor.Mine.REnc.X.l y_1) = List.length (Go.Proofs.YtkihnmpjpbfiaaaDoor.Mine.REnc.X.l y')) ∧ (↑(Go.Proofs.YtkihnmpjpbfiaaaDoor.Mine.REnc.X.i y_1) : Int) = (↑(Go.Proofs.YtkihnmpjpbfiaaaDoor.Mine.REnc.X.i y') : Int) ∧ Go.IntKind.wrap Go.IntKind.i64 (Go.IntKind.wrap Go.IntKind.i64 ((↑(Go.Proofs.YtkihnmpjpbfiaaaDoor.Mine.REnc.v3 (Go.Proofs.YtkihnmpjpbfiaaaDoor.Mine.REnc.tl s (Go.Proofs.YtkihnmpjpbfiaaaDoor.Mine.REnc.X.i y_1)) (Go.Proofs.YtkihnmpjpbfiaaaDoor.Mine.REnc.X.k y_1)) : Int) * (256 : Int)) + Go.IntKind.wrap Go.IntKind.i64 (↑(UInt8.toNat (match (Array.toList (ByteArray.data s))[Int.toNat (Go.IntKind.wrap Go.IntKind.i64 ((↑(Go.Proofs.YtkihnmpjpbfiaaaDoor.Mine.REnc.X.i y_1) : Int) + (↑(Go.Proofs.YtkihnmpjpbfiaaaDoor.Mine.REnc.X.k y_1) : Int)))]? with | Option.some x => x | Option.none => (0 : UInt8))) : Int)) = (↑(Go.Proofs.YtkihnmpjpbfiaaaDoor.Mine.REnc.v3 (Go.Proofs.YtkihnmpjpbfiaaaDoor.Mine.REnc.tl s (Go.Proofs.YtkihnmpjpbfiaaaDoor.Mine.REnc.X.i y')) (Go.Proofs.YtkihnmpjpbfiaaaDoor.Mine.REnc.X.k y')) : Int) ∧ Go.IntKind.wrap Go.IntKind.i64 ((↑(Go.Proofs.YtkihnmpjpbfiaaaDoor.Mine.REnc.X.k y_1) : Int) + (1 : Int)) = (↑(Go.Proofs.YtkihnmpjpbfiaaaDoor.Mine.REnc.X.k y') : Int) ∧ True ∧ True ∧ True ∧ True ∧ True ∧ True ∧ True ∧ True ∧ True ∧ True ∧ True ∧ True ∧ True ∧ True ∧ True ∧ True ∧ True ∧ True ∧ True ∧ True ∧ True ∧ True ∧ True ∧ True ∧ True ∧ True ∧ True ∧ True ∧ True ∧ True ∧ True ∧ True ∧ True ∧ True ∧ True ∧ True ∧ True ∧ True ∧ True ∧ True ∧ True ∧ True ∧ True ∧ True ∧ True ∧ True ∧ True ∧ True ∧ True ∧ True ∧ True ∧ True ∧ True ∧ True ∧ True ∧ True ∧ True ∧ True) ∧ True ∧ Go.Proofs.YtkihnmpjpbfiaaaDoor.Ev.RC.bytes (Go.Proofs.YtkihnmpjpbfiaaaDoor.Mine.REnc.X.l y_1) = Go.Proofs.YtkihnmpjpbfiaaaDoor.Ev.RC.bytes (Go.Proofs.YtkihnmpjpbfiaaaDoor.Mine.REnc.X.l y') ∧ True) ∧ (Decidable.decide (Go.IntKind.wrap Go.IntKind.i64 ((↑(Go.Proofs.YtkihnmpjpbfiaaaDoor.Mine.REnc.X.i y_1) : Int) + (↑(Go.Proofs.YtkihnmpjpbfiaaaDoor.Mine.REnc.X.k y_1) : Int)) < (↑(ByteArray.size s) : Int)) = Bool.false → True ∧ True ∧ True ∧ ∃ (y' : Go.Proofs.YtkihnmpjpbfiaaaDoor.Mine.REnc.X), (3 : Nat) - Go.Proofs.YtkihnmpjpbfiaaaDoor.Mine.REnc.X.k y' < (3 : Nat) - Go.Proofs.YtkihnmpjpbfiaaaDoor.Mine.REnc.X.k y_1 ∧ Go.Proofs.YtkihnmpjpbfiaaaDoor.Mine.REnc.I1 s x0 y' ∧ (s = s ∧ True ∧ True ∧ tb = tb ∧ ((0 : Nat) = (0 : Nat) ∧ List.length (Go.Proofs.YtkihnmpjpbfiaaaDoor.Mine.REnc.X.l y_1) = List.length (Go.Proofs.YtkihnmpjpbfiaaaDoor.Mine.REnc.X.l y')) ∧ (↑(Go.Proofs.YtkihnmpjpbfiaaaDoor.Mine.REnc.X.i y_1) : Int) = (↑(Go.Proofs.YtkihnmpjpbfiaaaDoor.Mine.REnc.X.i y') : Int) ∧ Go.IntKind.wrap Go.IntKind.i64 ((↑(Go.Proofs.YtkihnmpjpbfiaaaDoor.Mine.REnc.v3 (Go.Proofs.YtkihnmpjpbfiaaaDoor.Mine.REnc.tl s (Go.Proofs.YtkihnmpjpbfiaaaDoor.Mine.REnc.X.i y_1)) (Go.Proofs.YtkihnmpjpbfiaaaDoor.Mine.REnc.X.k y_1)) : Int) * (256 : Int)) = (↑(Go.Proofs.YtkihnmpjpbfiaaaDoor.Mine.REnc.v3 (Go.Proofs.YtkihnmpjpbfiaaaDoor.Mine.REnc.tl s (Go.Proofs.YtkihnmpjpbfiaaaDoor.Mine.REnc.X.i y')) (Go.Proofs.YtkihnmpjpbfiaaaDoor.Mine.REnc.X.k y')) : Int) ∧ Go.IntKind.wrap Go.IntKind.i64 ((↑(Go.Proofs.YtkihnmpjpbfiaaaDoor.Mine.REnc.X.k y_1) : Int) + (1 : Int)) = (↑(Go.Proofs.YtkihnmpjpbfiaaaDoor.Mine.REnc.X.k y') : Int) ∧ True ∧ True ∧ True ∧ True ∧ True ∧ True ∧ True ∧ True ∧ True ∧ True ∧ True ∧ True ∧ True ∧ True ∧ True ∧ True ∧ True ∧ True ∧ True ∧ True ∧ True ∧ True ∧ True ∧ True ∧ True ∧ True ∧ True ∧ True ∧ True ∧ True ∧ True ∧ True ∧ True ∧ True ∧ True ∧ True ∧ True ∧ True ∧ True ∧ True ∧ True ∧ True ∧ True ∧ True ∧ True ∧ True ∧ True ∧ True ∧ True ∧ True ∧ True ∧ True ∧ True ∧ True ∧ True ∧ True ∧ True ∧ True) ∧ True ∧ Go.Proofs.YtkihnmpjpbfiaaaDoor.Ev.RC.bytes (Go.Proofs.YtkihnmpjpbfiaaaDoor.Mine.REnc.X.l y_1) = Go.Proofs.YtkihnmpjpbfiaaaDoor.Ev.RC.bytes (Go.Proofs.YtkihnmpjpbfiaaaDoor.Mine.REnc.X.l y') ∧ True)) ∧ (Decidable.decide ((↑(Go.Proofs.YtkihnmpjpbfiaaaDoor.Mine.REnc.X.k y_1) : Int) < (3 : Int)) = Bool.false → True ∧ True ∧ True ∧ True ∧ True ∧ True ∧ True ∧ True ∧ ∃ (x0 : Go.Proofs.YtkihnmpjpbfiaaaDoor.Mine.REnc.X), Go.Proofs.YtkihnmpjpbfiaaaDoor.Mine.REnc.I2 s x0 x0 ∧ ((s = s ∧ True ∧ True ∧ tb = tb ∧ ((0 : Nat) = (0 : Nat) ∧ List.length (Go.Proofs.YtkihnmpjpbfiaaaDoor.Mine.REnc.X.l y_1) = List.length (Go.Proofs.YtkihnmpjpbfiaaaDoor.Mine.REnc.X.l x0 ++ List.take (Go.Proofs.YtkihnmpjpbfiaaaDoor.Mine.REnc.X.k x0) (Go.Proofs.YtkihnmpjpbfiaaaDoor.Mine.REnc.f4 (Go.Proofs.YtkihnmpjpbfiaaaDoor.Mine.REnc.tl s (Go.Proofs.YtkihnmpjpbfiaaaDoor.Mine.REnc.X.i x0))))) ∧ (↑(Go.Proofs.YtkihnmpjpbfiaaaDoor.Mine.REnc.X.i y_1) : Int) = (↑(Go.Proofs.YtkihnmpjpbfiaaaDoor.Mine.REnc.X.i x0) : Int) ∧ (↑(Go.Proofs.YtkihnmpjpbfiaaaDoor.Mine.REnc.v3 (Go.Proofs.YtkihnmpjpbfiaaaDoor.Mine.REnc.tl s (Go.Proofs.YtkihnmpjpbfiaaaDoor.Mine.REnc.X.i y_1)) (Go.Proofs.YtkihnmpjpbfiaaaDoor.Mine.REnc.X.k y_1)) : Int) = (↑(Go.Proofs.YtkihnmpjpbfiaaaDoor.Mine.REnc.v3 (Go.Proofs.YtkihnmpjpbfiaaaDoor.Mine.REnc.tl s (Go.Proofs.YtkihnmpjpbfiaaaDoor.Mine.REnc.X.i x0)) (3 : Nat)) : Int) ∧ True ∧ Go.IntKind.wrap Go.IntKind.i64 ((if (3 : Int) < Go.IntKind.wrap Go.IntKind.i64 ((↑(ByteArray.size s) : Int) - (↑(Go.Proofs.YtkihnmpjpbfiaaaDoor.Mine.REnc.X.i y_1) : Int)) then (3 : Int) else Go.IntKind.wrap Go.IntKind.i64 ((↑(ByteArray.size s) : Int) - (↑(Go.Proofs.YtkihnmpjpbfiaaaDoor.Mine.REnc.X.i y_1) : Int))) + (1 : Int)) = (↑(Go.Proofs.YtkihnmpjpbfiaaaDoor.Mine.REnc.mn s (Go.Proofs.YtkihnmpjpbfiaaaDoor.Mine.REnc.X.i x0)) : Int) ∧ (0 : Int) = (↑(Go.Proofs.YtkihnmpjpbfiaaaDoor.Mine.REnc.X.k x0) : Int) ∧ True ∧ True ∧ True ∧ True ∧ True ∧ True ∧ True ∧ True ∧ True ∧ True ∧ True ∧ True ∧ True ∧ True ∧ True ∧ True ∧ True ∧ True ∧ True ∧ True ∧ True ∧ True ∧ True ∧ True ∧ True ∧ True ∧ True ∧ True ∧ True ∧ True ∧ True ∧ True ∧ True ∧ True ∧ True ∧ True ∧ True ∧ True ∧ True ∧ True ∧ True ∧ True ∧ True ∧ True ∧ True ∧ True ∧ True ∧ True ∧ True ∧ True ∧ True ∧ True ∧ True ∧ True ∧ True ∧ True) ∧ True ∧ Go.Proofs.YtkihnmpjpbfiaaaDoor.Ev.RC.bytes (Go.Proofs.YtkihnmpjpbfiaaaDoor.Mine.REnc.X.l y_1) = Go.Proofs.YtkihnmpjpbfiaaaDoor.Ev.RC.bytes (Go.Proofs.YtkihnmpjpbfiaaaDoor.Mine.REnc.X.l x0 ++ List.take (Go.Proofs.YtkihnmpjpbfiaaaDoor.Mine.REnc.X.k x0) (Go.Proofs.YtkihnmpjpbfiaaaDoor.Mine.REnc.f4 (Go.Proofs.YtkihnmpjpbfiaaaDoor.Mine.REnc.tl s (Go.Proofs.YtkihnmpjpbfiaaaDoor.Mine.REnc.X.i x0)))) ∧ True) ∧ ∀ (y_2 : Go.Proofs.YtkihnmpjpbfiaaaDoor.Mine.REnc.X), Go.Proofs.YtkihnmpjpbfiaaaDoor.Mine.REnc.I2 s x0 y_2 → True ∧ True ∧ (Decidable.decide ((↑(Go.Proofs.YtkihnmpjpbfiaaaDoor.Mine.REnc.X.k y_2) : Int) < (4 : Int)) = Bool.true → True ∧ True ∧ True ∧ True ∧ True ∧ (0 : Int) ≤ Go.IntKind.wrap Go.IntKind.i64 ((18 : Int) - Go.IntKind.wrap Go.IntKind.i64 ((6 : Int) * (↑(Go.Proofs.YtkihnmpjpbfiaaaDoor.Mine.REnc.X.k y_2) : Int))) ∧ True ∧ ((0 : Int) ≤ Go.IntKind.wrap Go.IntKind.i64 (↑(BitVec.toNat (BitVec.ofInt (64 : Nat) (Int.fdiv (↑(Go.Proofs.YtkihnmpjpbfiaaaDoor.Mine.REnc.v3 (Go.Proofs.YtkihnmpjpbfiaaaDoor.Mine.REnc.tl s (Go.Proofs.YtkihnmpjpbfiaaaDoor.Mine.REnc.X.i y_2)) (3 : Nat)) : Int) ((2 : Int) ^ Min.min (Int.toNat (Go.IntKind.wrap Go.IntKind.i64 ((18 : Int) - Go.IntKind.wrap Go.IntKind.i64 ((6 : Int) * (↑(Go.Proofs.YtkihnmpjpbfiaaaDoor.Mine.REnc.X.k y_2) : Int))))) (64 : Nat))) &&& BitVec.ofInt (64 : Nat) (63 : Int))) : Int) ∧ Go.IntKind.wrap Go.IntKind.i64 (↑(BitVec.toNat (BitVec.ofInt (64 : Nat) (Int.fdiv (↑(Go.Proofs.YtkihnmpjpbfiaaaDoor.Mine.REnc.v3 (Go.Proofs.YtkihnmpjpbfiaaaDoor.Mine.REnc.tl s (Go.Proofs.YtkihnmpjpbfiaaaDoor.Mine.REnc.X.i y_2)) (3 : Nat)) : Int) ((2 : Int) ^ Min.min (Int.toNat (Go.IntKind.wrap Go.IntKind.i64 ((18 : Int) - Go.IntKind.wrap Go.IntKind.i64 ((6 : Int) * (↑(Go.Proofs.YtkihnmpjpbfiaaaDoor.Mine.REnc.X.k y_2) : Int))))) (64 : Nat))) &&& BitVec.ofInt (64 : Nat) (63 : Int))) : Int) < (↑(ByteArray.size tb) : Int)) ∧ True ∧ True ∧ True ∧ True ∧ (Decidable.decide ((↑(Go.Proofs.YtkihnmpjpbfiaaaDoor.Mine.REnc.X.k y_2) : Int) ≥ (↑(Go.Proofs.YtkihnmpjpbfiaaaDoor.Mine.REnc.mn s (Go.Proofs.YtkihnmpjpbfiaaaDoor.Mine.REnc.X.i y_2)) : Int)) = Bool.true → True ∧ True ∧ True ∧ True ∧ ((((0 : Int) ≤ (61 : Int) ∧ (61 : Int) < (256 : Int)) ∧ True) ∧ (0 : Nat) + List.length (Go.Proofs.YtkihnmpjpbfiaaaDoor.Mine.REnc.X.l y_2 ++ List.take (Go.Proofs.YtkihnmpjpbfiaaaDoor.Mine.REnc.X.k y_2) (Go.Proofs.YtkihnmpjpbfiaaaDoor.Mine.REnc.f4 (Go.Proofs.YtkihnmpjpbfiaaaDoor.Mine.REnc.tl s (Go.Proofs.YtkihnmpjpbfiaaaDoor.Mine.REnc.X.i y_2)))) = List.length (Go.Proofs.YtkihnmpjpbfiaaaDoor.Mine.REnc.X.l y_2 ++ List.take (Go.Proofs.YtkihnmpjpbfiaaaDoor.Mine.REnc.X.k y_2) (Go.Proofs.YtkihnmpjpbfiaaaDoor.Mine.REnc.f4 (Go.Proofs.YtkihnmpjpbfiaaaDoor.Mine.REnc.tl s (Go.Proofs.YtkihnmpjpbfiaaaDoor.Mine.REnc.X.i y_2)))) ∧ List.length (List.take (List.length (Go.Proofs.YtkihnmpjpbfiaaaDoor.Mine.REnc.X.l y_2 ++ List.take (Go.Proofs.YtkihnmpjpbfiaaaDoor.Mine.REnc.X.k y_2) (Go.Proofs.YtkihnmpjpbfiaaaDoor.Mine.REnc.f4 (Go.Proofs.YtkihnmpjpbfiaaaDoor.Mine.REnc.tl s (Go.Proofs.YtkihnmpjpbfiaaaDoor.Mine.REnc.X.i y_2))))) (List.drop (0 : Nat) (Go.Proofs.YtkihnmpjpbfiaaaDoor.Mine.REnc.X.l y_2 ++ List.take (Go.Proofs.YtkihnmpjpbfiaaaDoor.Mine.REnc.X.k y_2) (Go.Proofs.YtkihnmpjpbfiaaaDoor.Mine.REnc.f4 (Go.Proofs.YtkihnmpjpbfiaaaDoor.Mine.REnc.tl s (Go.Proofs.YtkihnmpjpbfiaaaDoor.Mine.REnc.X.i y_2))))) ++ [UInt8.ofNat (61 : Nat)]) * (1 : Nat) ≤ (140737488355328 : Nat)) ∧ True ∧ True ∧ True ∧ True ∧ ∃ (y' : Go.Proofs.YtkihnmpjpbfiaaaDoor.Mine.REnc.X), (4 : Nat) - Go.Proofs.YtkihnmpjpbfiaaaDoor.Mine.REnc.X.k y' < (4 : Nat) - Go.Proofs.YtkihnmpjpbfiaaaDoor.Mine.REnc.X.k y_2 ∧ Go.Proofs.YtkihnmpjpbfiaaaDoor.Mine.REnc.I2 s x0 y' ∧ (s = s ∧ True ∧ True ∧ tb = tb ∧ ((0 : Nat) = (0 : Nat) ∧ List.length (List.take (List.length (Go.Proofs.YtkihnmpjpbfiaaaDoor.Mine.REnc.X.l y_2 ++ List.take (Go.Proofs.YtkihnmpjpbfiaaaDoor.Mine.REnc.X.k y_2) (Go.Proofs.YtkihnmpjpbfiaaaDoor.Mine.REnc.f4 (Go.Proofs.YtkihnmpjpbfiaaaDoor.Mine.REnc.tl s (Go.Proofs.YtkihnmpjpbfiaaaDoor.Mine.REnc.X.i y_2))))) (List.drop (0 : Nat) (Go.Proofs.YtkihnmpjpbfiaaaDoor.Mine.REnc.X.l y_2 ++ List.take (Go.Proofs.YtkihnmpjpbfiaaaDoor.Mine.REnc.X.k y_2) (Go.Proofs.YtkihnmpjpbfiaaaDoor.Mine.REnc.f4 (Go.Proofs.YtkihnmpjpbfiaaaDoor.Mine.REnc.tl s (Go.Proofs.YtkihnmpjpbfiaaaDoor.Mine.REnc.X.i y_2))))) ++ [UInt8.ofNat (61 : Nat)]) = List.length (Go.Proofs.YtkihnmpjpbfiaaaDoor.Mine.REnc.X.l y' ++ List.take (Go.Proofs.YtkihnmpjpbfiaaaDoor.Mine.REnc.X.k y') (Go.Proofs.YtkihnmpjpbfiaaaDoor.Mine.REnc.f4 (Go.Proofs.YtkihnmpjpbfiaaaDoor.Mine.REnc.tl s (Go.Proofs.YtkihnmpjpbfiaaaDoor.Mine.REnc.X.i y'))))) ∧ (↑(Go.Proofs.YtkihnmpjpbfiaaaDoor.Mine.REnc.X.i y_2) : Int) = (↑(Go.Proofs.YtkihnmpjpbfiaaaDoor.Mine.REnc.X.i y') : Int) ∧ (↑(Go.Proofs.YtkihnmpjpbfiaaaDoor.Mine.REnc.v3 (Go.Proofs.YtkihnmpjpbfiaaaDoor.Mine.REnc.tl s (Go.Proofs.YtkihnmpjpbfiaaaDoor.Mine.REnc.X.i y_2)) (3 : Nat)) : Int) = (↑(Go.Proofs.YtkihnmpjpbfiaaaDoor.Mine.REnc.v3 (Go.Proofs.YtkihnmpjpbfiaaaDoor.Mine.REnc.tl s (Go.Proofs.YtkihnmpjpbfiaaaDoor.Mine.REnc.X.i y')) (3 : Nat)) : Int) ∧ True ∧ (↑(Go.Proofs.YtkihnmpjpbfiaaaDoor.Mine.REnc.mn s (Go.Proofs.YtkihnmpjpbfiaaaDoor.Mine.REnc.X.i y_2)) : Int) = (↑(Go.Proofs.YtkihnmpjpbfiaaaDoor.Mine.REnc.mn s (Go.Proofs.YtkihnmpjpbfiaaaDoor.Mine.REnc.X.i y')) : Int) ∧ Go.IntKind.wrap Go.IntKind.i64 ((↑(Go.Proofs.YtkihnmpjpbfiaaaDoor.Mine.REnc.X.k y_2) : Int) + (1 : Int)) = (↑(Go.Proofs.YtkihnmpjpbfiaaaDoor.Mine.REnc.X.k y') : Int) ∧ True ∧ True ∧ True ∧ True ∧ True ∧ True ∧ True ∧ True ∧ True ∧ True ∧ True ∧ True ∧ True ∧ True ∧ True ∧ True ∧ True ∧ True ∧ True ∧ True ∧ True ∧ True ∧ True ∧ True ∧ True ∧ True ∧ True ∧ True ∧ True ∧ True ∧ True ∧ True ∧ True ∧ True ∧ True ∧ True ∧ True ∧ True ∧ True ∧ True ∧ True ∧ True ∧ True ∧ True ∧ True ∧ True ∧ True ∧ True ∧ True ∧ True ∧ True ∧ True ∧ True ∧ True ∧ True ∧ True) ∧ True ∧ Go.Proofs.YtkihnmpjpbfiaaaDoor.Ev.RC.bytes (List.take (List.length (Go.Proofs.YtkihnmpjpbfiaaaDoor.Mine.REnc.X.l y_2 ++ List.take (Go.Proofs.YtkihnmpjpbfiaaaDoor.Mine.REnc.X.k y_2) (Go.Proofs.YtkihnmpjpbfiaaaDoor.Mine.REnc.f4 (Go.Proofs.YtkihnmpjpbfiaaaDoor.Mine.REnc.tl s (Go.Proofs.YtkihnmpjpbfiaaaDoor.Mine.REnc.X.i y_2))))) (List.drop (0 : Nat) (Go.Proofs.YtkihnmpjpbfiaaaDoor.Mine.REnc.X.l y_2 ++ List.take (Go.Proofs.YtkihnmpjpbfiaaaDoor.Mine.REnc.X.k y_2) (Go.Proofs.YtkihnmpjpbfiaaaDoor.Mine.REnc.f4 (Go.Proofs.YtkihnmpjpbfiaaaDoor.Mine.REnc.tl s (Go.Proofs.YtkihnmpjpbfiaaaDoor.Mine.REnc.X.i y_2))))) ++ [UInt8.ofNat (61 : Nat)]) = Go.Proofs.YtkihnmpjpbfiaaaDoor.Ev.RC.bytes (Go.Proofs.YtkihnmpjpbfiaaaDoor.Mine.REnc.X.l y' ++ List.take (Go.Proofs.YtkihnmpjpbfiaaaDoor.Mine.REnc.X.k y') (Go.Proofs.YtkihnmpjpbfiaaaDoor.Mine.REnc.f4 (Go.Proofs.YtkihnmpjpbfiaaaDoor.Mine.REnc.tl s (Go.Proofs.YtkihnmpjpbfiaaaDoor.Mine.REnc.X.i y')))) ∧ True) ∧ (Decidable.decide ((↑(Go.Proofs.YtkihnmpjpbfiaaaDoor.Mine.REnc.X.k y_2) : Int) ≥ (↑(Go.Proofs.YtkihnmpjpbfiaaaDoor.Mine.REnc.mn s (Go.Proofs.YtkihnmpjpbfiaaaDoor.Mine.REnc.X.i y_2)) : Int)) = Bool.false → True ∧ True ∧ True ∧ ((((0 : Int) ≤ (↑(UInt8.toNat (match (Array.toList (ByteArray.data tb))[Int.toNat (Go.IntKind.wrap Go.IntKind.i64 (↑(BitVec.toNat (BitVec.ofInt (64 : Nat) (Int.fdiv (↑(Go.Proofs.YtkihnmpjpbfiaaaDoor.Mine.REnc.v3 (Go.Proofs.YtkihnmpjpbfiaaaDoor.Mine.REnc.tl s (Go.Proofs.YtkihnmpjpbfiaaaDoor.Mine.REnc.X.i y_2)) (3 : Nat)) : Int) ((2 : Int) ^ Min.min (Int.toNat (Go.IntKind.wrap Go.IntKind.i64 ((18 : Int) - Go.IntKind.wrap Go.IntKind.i64 ((6 : Int) * (↑(Go.Proofs.YtkihnmpjpbfiaaaDoor.Mine.REnc.X.k y_2) : Int))))) (64 : Nat))) &&& BitVec.ofInt (64 : Nat) (63 : Int))) : Int))]? with | Option.some x => x | Option.none => (0 : UInt8))) : Int) ∧ (↑(UInt8.toNat (match (Array.toList (ByteArray.data tb))[Int.toNat (Go.IntKind.wrap Go.IntKind.i64 (↑(BitVec.toNat (BitVec.ofInt (64 : Nat) (Int.fdiv (↑(Go.Proofs.YtkihnmpjpbfiaaaDoor.Mine.REnc.v3 (Go.Proofs.YtkihnmpjpbfiaaaDoor.Mine.REnc.tl s (Go.Proofs.YtkihnmpjpbfiaaaDoor.Mine.REnc.X.i y_2)) (3 : Nat)) : Int) ((2 : Int) ^ Min.min (Int.toNat (Go.IntKind.wrap Go.IntKind.i64 ((18 : Int) - Go.IntKind.wrap Go.IntKind.i64 ((6 : Int) * (↑(Go.Proofs.YtkihnmpjpbfiaaaDoor.Mine.REnc.X.k y_2) : Int))))) (64 : Nat))) &&& BitVec.ofInt (64 : Nat) (63 : Int))) : Int))]? with | Option.some x => x | Option.none => (0 : UInt8))) : Int) < (256 : Int)) ∧ True) ∧ (0 : Nat) + List.length (Go.Proofs.YtkihnmpjpbfiaaaDoor.Mine.REnc.X.l y_2 ++ List.take (Go.Proofs.YtkihnmpjpbfiaaaDoor.Mine.REnc.X.k y_2) (Go.Proofs.YtkihnmpjpbfiaaaDoor.Mine.REnc.f4 (Go.Proofs.YtkihnmpjpbfiaaaDoor.Mine.REnc.tl s (Go.Proofs.YtkihnmpjpbfiaaaDoor.Mine.REnc.X.i y_2)))) = List.length (Go.Proofs.YtkihnmpjpbfiaaaDoor.Mine.REnc.X.l y_2 ++ List.take (Go.Proofs.YtkihnmpjpbfiaaaDoor.Mine.REnc.X.k y_2) (Go.Proofs.YtkihnmpjpbfiaaaDoor.Mine.REnc.f4 (Go.Proofs.YtkihnmpjpbfiaaaDoor.Mine.REnc.tl s (Go.Proofs.YtkihnmpjpbfiaaaDoor.Mine.REnc.X.i y_2)))) ∧ List.length (List.take (List.length (Go.Proofs.YtkihnmpjpbfiaaaDoor.Mine.REnc.X.l y_2 ++ List.take (Go.Proofs.YtkihnmpjpbfiaaaDoor.Mine.REnc.X.k y_2) (Go.Proofs.YtkihnmpjpbfiaaaDoor.Mine.REnc.f4 (Go.Proofs.YtkihnmpjpbfiaaaDoor.Mine.REnc.tl s (Go.Proofs.YtkihnmpjpbfiaaaDoor.Mine.REnc.X.i y_2))))) (List.drop (0 : Nat) (Go.Proofs.YtkihnmpjpbfiaaaDoor.Mine.REnc.X.l y_2 ++ List.take (Go.Proofs.YtkihnmpjpbfiaaaDoor.Mine.REnc.X.k y_2) (Go.Proofs.YtkihnmpjpbfiaaaDoor.Mine.REnc.f4 (Go.Proofs.YtkihnmpjpbfiaaaDoor.Mine.REnc.tl s (Go.Proofs.YtkihnmpjpbfiaaaDoor.Mine.REnc.X.i y_2))))) ++ [UInt8.ofNat (Int.toNat (↑(UInt8.toNat (match (Array.toList (ByteArray.data tb))[Int.toNat (Go.IntKind.wrap Go.IntKind.i64 (↑(BitVec.toNat (BitVec.ofInt (64 : Nat) (Int.fdiv (↑(Go.Proofs.YtkihnmpjpbfiaaaDoor.Mine.REnc.v3 (Go.Proofs.YtkihnmpjpbfiaaaDoor.Mine.REnc.tl s (Go.Proofs.YtkihnmpjpbfiaaaDoor.Mine.REnc.X.i y_2)) (3 : Nat)) : Int) ((2 : Int) ^ Min.min (Int.toNat (Go.IntKind.wrap Go.IntKind.i64 ((18 : Int) - Go.IntKind.wrap Go.IntKind.i64 ((6 : Int) * (↑(Go.Proofs.YtkihnmpjpbfiaaaDoor.Mine.REnc.X.k y_2) : Int))))) (64 : Nat))) &&& BitVec.ofInt (64 : Nat) (63 : Int))) : Int))]? with | Option.some x => x | Option.none => (0 : UInt8))) : Int))]) * (1 : Nat) ≤ (140737488355328 : Nat)) ∧ True ∧ True ∧ True ∧ True ∧ ∃ (y' : Go.Proofs.YtkihnmpjpbfiaaaDoor.Mine.REnc.X), (4 : Nat) - Go.Proofs.YtkihnmpjpbfiaaaDoor.Mine.REnc.X.k y' < (4 : Nat) - Go.Proofs.YtkihnmpjpbfiaaaDoor.Mine.REnc.X.k y_2 ∧ Go.Proofs.YtkihnmpjpbfiaaaDoor.Mine.REnc.I2 s x0 y' ∧ (s = s ∧ True ∧ True ∧ tb = tb ∧ ((0 : Nat) = (0 : Nat) ∧ List.length (List.take (List.length (Go.Proofs.YtkihnmpjpbfiaaaDoor.Mine.REnc.X.l y_2 ++ List.take (Go.Proofs.YtkihnmpjpbfiaaaDoor.Mine.REnc.X.k y_2) (Go.Proofs.YtkihnmpjpbfiaaaDoor.Mine.REnc.f4 (Go.Proofs.YtkihnmpjpbfiaaaDoor.Mine.REnc.tl s (Go.Proofs.YtkihnmpjpbfiaaaDoor.Mine.REnc.X.i y_2))))) (List.drop (0 : Nat) (Go.Proofs.YtkihnmpjpbfiaaaDoor.Mine.REnc.X.l y_2 ++ List.take (Go.Proofs.YtkihnmpjpbfiaaaDoor.Mine.REnc.X.k y_2) (Go.Proofs.YtkihnmpjpbfiaaaDoor.Mine.REnc.f4 (Go.Proofs.YtkihnmpjpbfiaaaDoor.Mine.REnc.tl s (Go.Proofs.YtkihnmpjpbfiaaaDoor.Mine.REnc.X.i y_2))))) ++ [UInt8.ofNat (Int.toNat (↑(UInt8.toNat (match (Array.toList (ByteArray.data tb))[Int.toNat (Go.IntKind.wrap Go.IntKind.i64 (↑(BitVec.toNat (BitVec.ofInt (64 : Nat) (Int.fdiv (↑(Go.Proofs.YtkihnmpjpbfiaaaDoor.Mine.REnc.v3 (Go.Proofs.YtkihnmpjpbfiaaaDoor.Mine.REnc.tl s (Go.Proofs.YtkihnmpjpbfiaaaDoor.Mine.REnc.X.i y_2)) (3 : Nat)) : Int) ((2 : Int) ^ Min.min (Int.toNat (Go.IntKind.wrap Go.IntKind.i64 ((18 : Int) - Go.IntKind.wrap Go.IntKind.i64 ((6 : Int) * (↑(Go.Proofs.YtkihnmpjpbfiaaaDoor.Mine.REnc.X.k y_2) : Int))))) (64 : Nat))) &&& BitVec.ofInt (64 : Nat) (63 : Int))) : Int))]? with | Option.some x => x | Option.none => (0 : UInt8))) : Int))]) = List.length (Go.Proofs.YtkihnmpjpbfiaaaDoor.Mine.REnc.X.l y' ++ List.take (Go.Proofs.YtkihnmpjpbfiaaaDoor.Mine.REnc.X.k y') (Go.Proofs.YtkihnmpjpbfiaaaDoor.Mine.REnc.f4 (Go.Proofs.YtkihnmpjpbfiaaaDoor.Mine.REnc.tl s (Go.Proofs.YtkihnmpjpbfiaaaDoor.Mine.REnc.X.i y'))))) ∧ (↑(Go.Proofs.YtkihnmpjpbfiaaaDoor.Mine.REnc.X.i y_2) : Int) = (↑(Go.Proofs.YtkihnmpjpbfiaaaDoor.Mine.REnc.X.i y') : Int) ∧ (↑(Go.Proofs.YtkihnmpjpbfiaaaDoor.Mine.REnc.v3 (Go.Proofs.YtkihnmpjpbfiaaaDoor.Mine.REnc.tl s (Go.Proofs.YtkihnmpjpbfiaaaDoor.Mine.REnc.X.i y_2)) (3 : Nat)) : Int) = (↑(Go.Proofs.YtkihnmpjpbfiaaaDoor.Mine.REnc.v3 (Go.Proofs.YtkihnmpjpbfiaaaDoor.Mine.REnc.tl s (Go.Proofs.YtkihnmpjpbfiaaaDoor.Mine.REnc.X.i y')) (3 : Nat)) : Int) ∧ True ∧ (↑(Go.Proofs.YtkihnmpjpbfiaaaDoor.Mine.REnc.mn s (Go.Proofs.YtkihnmpjpbfiaaaDoor.Mine.REnc.X.i y_2)) : Int) = (↑(Go.Proofs.YtkihnmpjpbfiaaaDoor.Mine.REnc.mn s (Go.Proofs.YtkihnmpjpbfiaaaDoor.Mine.REnc.X.i y')) : Int) ∧ Go.IntKind.wrap Go.IntKind.i64 ((↑(Go.Proofs.YtkihnmpjpbfiaaaDoor.Mine.REnc.X.k y_2) : Int) + (1 : Int)) = (↑(Go.Proofs.YtkihnmpjpbfiaaaDoor.Mine.REnc.X.k y') : Int) ∧ True ∧ True ∧ True ∧ True ∧ True ∧ True ∧ True ∧ True ∧ True ∧ True ∧ True ∧ True ∧ True ∧ True ∧ True ∧ True ∧ True ∧ True ∧ True ∧ True ∧ True ∧ True ∧ True ∧ True ∧ True ∧ True ∧ True ∧ True ∧ True ∧ True ∧ True ∧ True ∧ True ∧ True ∧ True ∧ True ∧ True ∧ True ∧ True ∧ True ∧ True ∧ True ∧ True ∧ True ∧ True ∧ True ∧ True ∧ True ∧ True ∧ True ∧ True ∧ True ∧ True ∧ True ∧ True ∧ True) ∧ True ∧ Go.Proofs.YtkihnmpjpbfiaaaDoor.Ev.RC.bytes (List.take (List.length (Go.Proofs.YtkihnmpjpbfiaaaDoor.Mine.REnc.X.l y_2 ++ List.take (Go.Proofs.YtkihnmpjpbfiaaaDoor.Mine.REnc.X.k y_2) (Go.Proofs.YtkihnmpjpbfiaaaDoor.Mine.REnc.f4 (Go.Proofs.YtkihnmpjpbfiaaaDoor.Mine.REnc.tl s (Go.Proofs.YtkihnmpjpbfiaaaDoor.Mine.REnc.X.i y_2))))) (List.drop (0 : Nat) (Go.Proofs.YtkihnmpjpbfiaaaDoor.Mine.REnc.X.l y_2 ++ List.take (Go.Proofs.YtkihnmpjpbfiaaaDoor.Mine.REnc.X.k y_2) (Go.Proofs.YtkihnmpjpbfiaaaDoor.Mine.REnc.f4 (Go.Proofs.YtkihnmpjpbfiaaaDoor.Mine.REnc.tl s (Go.Proofs.YtkihnmpjpbfiaaaDoor.Mine.REnc.X.i y_2))))) ++ [UInt8.ofNat (Int.toNat (↑(UInt8.toNat (match (Array.toList (ByteArray.data tb))[Int.toNat (Go.IntKind.wrap Go.IntKind.i64 (↑(BitVec.toNat (BitVec.ofInt (64 : Nat) (Int.fdiv (↑(Go.Proofs.YtkihnmpjpbfiaaaDoor.Mine.REnc.v3 (Go.Proofs.YtkihnmpjpbfiaaaDoor.Mine.REnc.tl s (Go.Proofs.YtkihnmpjpbfiaaaDoor.Mine.REnc.X.i y_2)) (3 : Nat)) : Int) ((2 : Int) ^ Min.min (Int.toNat (Go.IntKind.wrap Go.IntKind.i64 ((18 : Int) - Go.IntKind.wrap Go.IntKind.i64 ((6 : Int) * (↑(Go.Proofs.YtkihnmpjpbfiaaaDoor.Mine.REnc.X.k y_2) : Int))))) (64 : Nat))) &&& BitVec.ofInt (64 : Nat) (63 : Int))) : Int))]? with | Option.some x => x | Option.none => (0 : UInt8))) : Int))]) = Go.Proofs.YtkihnmpjpbfiaaaDoor.Ev.RC.bytes (Go.Proofs.YtkihnmpjpbfiaaaDoor.Mine.REnc.X.l y' ++ List.take (Go.Proofs.YtkihnmpjpbfiaaaDoor.Mine.REnc.X.k y') (Go.Proofs.YtkihnmpjpbfiaaaDoor.Mine.REnc.f4 (Go.Proofs.YtkihnmpjpbfiaaaDoor.Mine.REnc.tl s (Go.Proofs.YtkihnmpjpbfiaaaDoor.Mine.REnc.X.i y')))) ∧ True)) ∧ (Decidable.decide ((↑(Go.Proofs.YtkihnmpjpbfiaaaDoor.Mine.REnc.X.k y_2) : Int) < (4 : Int)) = Bool.false → True ∧ True ∧ True ∧ ∃ (y' : Go.Proofs.YtkihnmpjpbfiaaaDoor.Mine.REnc.X), ByteArray.size s + (2 : Nat) - Go.Proofs.YtkihnmpjpbfiaaaDoor.Mine.REnc.X.i y' < ByteArray.size s + (2 : Nat) - Go.Proofs.YtkihnmpjpbfiaaaDoor.Mine.REnc.X.i y ∧ Go.Proofs.YtkihnmpjpbfiaaaDoor.Mine.REnc.ORl s y' ∧ (s = s ∧ True ∧ True ∧ tb = tb ∧ ((0 : Nat) = (0 : Nat) ∧ List.length (Go.Proofs.YtkihnmpjpbfiaaaDoor.Mine.REnc.X.l y_2 ++ List.take (Go.Proofs.YtkihnmpjpbfiaaaDoor.Mine.REnc.X.k y_2) (Go.Proofs.YtkihnmpjpbfiaaaDoor.Mine.REnc.f4 (Go.Proofs.YtkihnmpjpbfiaaaDoor.Mine.REnc.tl s (Go.Proofs.YtkihnmpjpbfiaaaDoor.Mine.REnc.X.i y_2)))) = List.length (Go.Proofs.YtkihnmpjpbfiaaaDoor.Mine.REnc.X.l y')) ∧ Go.IntKind.wrap Go.IntKind.i64 ((↑(Go.Proofs.YtkihnmpjpbfiaaaDoor.Mine.REnc.X.i y_2) : Int) + (3 : Int)) = (↑(Go.Proofs.YtkihnmpjpbfiaaaDoor.Mine.REnc.X.i y') : Int) ∧ True ∧ True ∧ True ∧ True ∧ True ∧ True ∧ True ∧ True ∧ True ∧ True ∧ True ∧ True ∧ True ∧ True ∧ True ∧ True ∧ True ∧ True ∧ True ∧ True ∧ True ∧ True ∧ True ∧ True ∧ True ∧ True ∧ True ∧ True ∧ True ∧ True ∧ True ∧ True ∧ True ∧ True ∧ True ∧ True ∧ True ∧ True ∧ True ∧ True ∧ True ∧ True ∧ True ∧ True ∧ True ∧ True ∧ True ∧ True ∧ True ∧ True ∧ True ∧ True ∧ True ∧ True ∧ True ∧ True ∧ True ∧ True ∧ True ∧ True) ∧ True ∧ Go.Proofs.YtkihnmpjpbfiaaaDoor.Ev.RC.bytes (Go.Proofs.YtkihnmpjpbfiaaaDoor.Mine.REnc.X.l y_2 ++ List.take (Go.Proofs.YtkihnmpjpbfiaaaDoor.Mine.REnc.X.k y_2) (Go.Proofs.YtkihnmpjpbfiaaaDoor.Mine.REnc.f4 (Go.Proofs.YtkihnmpjpbfiaaaDoor.Mine.REnc.tl s (Go.Proofs.YtkihnmpjpbfiaaaDoor.Mine.REnc.X.i y_2)))) = Go.Proofs.YtkihnmpjpbfiaaaDoor.Ev.RC.bytes (Go.Proofs.YtkihnmpjpbfiaaaDoor.Mine.REnc.X.l y') ∧ True))) ∧ (Decidable.decide ((↑(Go.Proofs.YtkihnmpjpbfiaaaDoor.Mine.REnc.X.i y) : Int) < (↑(ByteArray.size s) : Int)) = Bool.false → True ∧ (0 : Nat) + List.length (Go.Proofs.YtkihnmpjpbfiaaaDoor.Mine.REnc.X.l y) ≤ List.length (Go.Proofs.YtkihnmpjpbfiaaaDoor.Mine.REnc.X.l y) ∧ True ∧ (ByteArray.mk (List.toArray (List.take (List.length (Go.Proofs.YtkihnmpjpbfiaaaDoor.Mine.REnc.X.l y)) (List.drop (0 : Nat) (Go.Proofs.YtkihnmpjpbfiaaaDoor.Mine.REnc.X.l y)))) = Go.Proofs.YtkihnmpjpbfiaaaDoor.Mine.encS s ∧ True) ∧ True ∧ True)) := by kernel_rfl

theorem v3_lt (tl : List UInt8) : v3 tl 1 < 256 ∧ v3 tl 2 < 65536 ∧ v3 tl 3 < 16777216 := by
  have h0 := (tl.getD 0 0).toNat_lt
  have h1 := (tl.getD 1 0).toNat_lt
  have h2 := (tl.getD 2 0).toNat_lt
  simp only [v3]
  omega
theorem e64_len : ∀ l : List UInt8, (e64 l).length = (l.length + 2) / 3 * 4
  | [] => rfl
  | [a] => by simp [e64]
  | [a, b] => by simp [e64]
  | a :: b :: c :: r => by
    simp only [e64, List.length_cons]
    rw [e64_len r]; omega
theorem f4_get : ∀ (tl : List UInt8) (k : Nat), tl ≠ [] → k < 4 → (f4 tl)[k]? = some (if min tl.length 3 + 1 ≤ k then 61 else d64 (v3 tl 3 / 2 ^ (18 - 6 * k) % 64))
  | [], _, h, _ => absurd rfl h
  | [a], k, _, hk => by
    have ha := a.toNat_lt
    have : k = 0 ∨ k = 1 ∨ k = 2 ∨ k = 3 := by omega
    rcases this with rfl | rfl | rfl | rfl <;> simp [f4, e64, v3] <;> (congr 1; omega)
  | [a, b], k, _, hk => by
    have ha := a.toNat_lt
    have hb := b.toNat_lt
    have : k = 0 ∨ k = 1 ∨ k = 2 ∨ k = 3 := by omega
    rcases this with rfl | rfl | rfl | rfl <;> simp [f4, e64, v3] <;> (congr 1; omega)
  | a :: b :: c :: r, k, _, hk => by
    have ha := a.toNat_lt
    have hb := b.toNat_lt
    have hc := c.toNat_lt
    have h3 : min (a :: b :: c :: r).length 3 = 3 := by simp only [List.length_cons]; omega
    rw [h3]
    have : k = 0 ∨ k = 1 ∨ k = 2 ∨ k = 3 := by omega
    rcases this with rfl | rfl | rfl | rfl <;> simp [f4, e64, v3] <;> (congr 1; omega)
theorem f4_len {tl : List UInt8} (h : tl ≠ []) : (f4 tl).length = 4 := by
  unfold f4
  rw [List.length_take, e64_len]
  have : 0 < tl.length := List.length_pos_iff.2 h
  omega

theorem walk (s : ByteArray) (hs : s.size ≤ 2 ^ 40) : awp (CV Enc.tb) (how Enc.tb s) (bodyOf Tryd.f16) ⟨[.str s] ++ List.replicate 64 .u, [], []⟩ (finA (CV Enc.tb).P Tryd.f16 0 (.str (encS s)) []) := by
  rw [vc]
  have h64 : Enc.tb.size = 64 := rfl
  simp only [true_and, and_true, decide_eq_true_eq, decide_eq_false_iff_not, beq_iff_eq, beq_eq_false_iff_ne, bne_iff_ne, bne_eq_false_iff_eq, List.drop_zero, List.take_length, Nat.zero_add]
  have tot : ∀ (i : Nat) (l : List UInt8), ORl s ⟨i, l, 0⟩ → i < s.size → l.length + 4 ≤ 2 ^ 42 ∧ tl s i ≠ [] := by
    rintro i l ⟨h1, h2⟩ hi
    have hne : tl s i ≠ [] := by
      intro h
      have := congrArg List.length h
      simp only [tl, List.length_drop, size_eq, List.length_nil] at this
      omega
    refine ⟨?_, hne⟩
    have := congrArg List.length h2
    rw [List.length_append, e64_f4 _ hne, List.length_append, f4_len hne, e64_len s.data.toList, size_eq] at this
    simp only at this
    omega
  refine ⟨⟨0, [], 0⟩, ⟨Nat.zero_le _, rfl⟩, ⟨⟨rfl, rfl⟩, rfl⟩, ?_⟩
  rintro ⟨i, l, k0⟩ hy
  obtain ⟨q1, q2⟩ := hy
  simp only at q1 q2 ⊢
  refine ⟨fun hi => ?_, fun hi => ?_⟩
  · have hi' : i < s.size := by omega
    obtain ⟨hlen, hne⟩ := tot i l ⟨q1, q2⟩ hi'
    have hv := v3_lt (tl s i)
    refine ⟨⟨i, l, 0⟩, ⟨rfl, rfl, Nat.zero_le _⟩, ⟨⟨rfl, rfl, rfl, rfl⟩, rfl⟩, ?_⟩
    rintro ⟨i', l', k⟩ ⟨r1, r2, r3⟩
    simp only at r1 r2 r3
    subst r1 r2
    simp only
    refine ⟨fun hk => ?_, fun hk => ?_⟩
    · have hvk : v3 (tl s i') k < 16777216 := by
        have : k = 0 ∨ k = 1 ∨ k = 2 := by omega
        rcases this with rfl | rfl | rfl
        · simp [v3]
        · omega
        · omega
      have w1 : IntKind.wrap .i64 ((i' : Int) + k) = ((i' + k : Nat) : Int) := by rw [wrap64 (by omega) (by omega)]; omega
      have w2 : IntKind.wrap .i64 ((k : Int) + 1) = ((k + 1 : Nat) : Int) := by rw [wrap64 (by omega) (by omega)]; omega
      have w3 : IntKind.wrap .i64 ((v3 (tl s i') k : Int) * 256) = ((v3 (tl s i') k * 256 : Nat) : Int) := by rw [wrap64 (by omega) (by omega)]; omega
      rw [w1, w2, w3, Int.toNat_natCast]
      have hg : (tl s i').getD k 0 = s.data.toList.getD (i' + k) 0 := by
        simp [tl, List.getD_eq_getElem?_getD, List.getElem?_drop]
      refine ⟨fun h => ?_, fun h => ?_⟩
      · obtain ⟨b, hb0, _⟩ := byte_at (s := s) (i := i' + k) (by omega)
        rw [hb0]
        have hbl := b.toNat_lt
        refine ⟨⟨by omega, by omega⟩, ⟨i', l', k + 1⟩, by simp only; omega, ⟨rfl, rfl, by simp only; omega⟩, ⟨rfl, rfl, ?_, rfl⟩, rfl⟩
        simp only [v3]
        rw [hg, List.getD_eq_getElem?_getD, hb0, wrapN (by omega), wrap64 (by omega) (by omega)]
        simp
      · refine ⟨⟨i', l', k + 1⟩, by simp only; omega, ⟨rfl, rfl, by simp only; omega⟩, ⟨rfl, rfl, ?_, rfl⟩, rfl⟩
        simp only [v3]
        rw [hg, List.getD_eq_getElem?_getD, List.getElem?_eq_none (by rw [size_eq]; omega)]
        simp
    · have hk3 : k = 3 := by omega
      subst hk3
      have w1 : IntKind.wrap .i64 ((s.size : Int) - i') = ((s.size - i' : Nat) : Int) := by rw [wrap64 (by omega) (by omega)]; omega
      refine ⟨⟨i', l', 0⟩, ⟨rfl, rfl, Nat.zero_le _⟩, ⟨⟨by simp, rfl, rfl, ?_, rfl⟩, by simp⟩, ?_⟩
      · rw [w1, wrap64 (by split <;> omega) (by split <;> omega)]
        simp only [mn]
        split <;> omega
      · rintro ⟨i'', l'', k⟩ ⟨r1, r2, r3⟩
        simp only at r1 r2 r3
        subst r1 r2
        simp only
        refine ⟨fun hk => ?_, fun hk => ?_⟩
        · have hk' : k < 4 := by omega
          have w2 : IntKind.wrap .i64 (6 * (k : Int)) = ((6 * k : Nat) : Int) := by rw [wrap64 (by omega) (by omega)]; omega
          have w3 : IntKind.wrap .i64 (18 - IntKind.wrap .i64 (6 * (k : Int))) = ((18 - 6 * k : Nat) : Int) := by rw [w2, wrap64 (by omega) (by omega)]; omega
          have hdl : v3 (tl s i'') 3 / 2 ^ (18 - 6 * k) ≤ v3 (tl s i'') 3 := Nat.div_le_self _ _
          have w4 : IntKind.wrap .i64 ((BitVec.ofInt 64 (((v3 (tl s i'') 3 : Nat) : Int).fdiv (2 ^ min (IntKind.wrap .i64 (18 - IntKind.wrap .i64 (6 * (k : Int)))).toNat 64)) &&& BitVec.ofInt 64 63).toNat : Int) = ((v3 (tl s i'') 3 / 2 ^ (18 - 6 * k) % 64 : Nat) : Int) := by
            rw [w3, shr_n (by omega)]; exact and_mask (t := 6) (by omega) (by decide)
          have w5 : IntKind.wrap .i64 ((k : Int) + 1) = ((k + 1 : Nat) : Int) := by rw [wrap64 (by omega) (by omega)]; omega
          rw [w4, w3, w5, Int.toNat_natCast]
          obtain ⟨b, hb0, _⟩ := byte_at (s := Enc.tb) (i := v3 (tl s i'') 3 / 2 ^ (18 - 6 * k) % 64) (by rw [h64]; omega)
          have hd : d64 (v3 (tl s i'') 3 / 2 ^ (18 - 6 * k) % 64) = b := by
            simp [d64, tbAt, List.getD_eq_getElem?_getD, hb0]
          have hbl := b.toNat_lt
          have hf := f4_get (tl s i'') k hne hk'
          have hmn : min (tl s i'').length 3 + 1 = mn s i'' := by
            simp only [mn, tl, List.length_drop, size_eq]
          rw [hmn, hd] at hf
          have htk : ∀ c, (if mn s i'' ≤ k then 61 else b) = c → l'' ++ List.take (k + 1) (f4 (tl s i'')) = l'' ++ List.take k (f4 (tl s i'')) ++ [c] := by
            intro c hc
            rw [List.take_add_one, hf, hc]; simp
          have hL : (l'' ++ List.take k (f4 (tl s i''))).length ≤ l''.length + 4 := by
            rw [List.length_append, List.length_take]; omega
          rw [hb0]
          simp only [Int.toNat_natCast, UInt8.ofNat_toNat]
          refine ⟨by omega, ⟨by omega, by rw [h64]; omega⟩, fun hm => ⟨⟨by decide, ?_⟩, ⟨i'', l'', k + 1⟩, by simp only; omega, ⟨rfl, rfl, by simp only; omega⟩, ?_, ?_⟩, fun hm => ⟨⟨⟨by omega, by omega⟩, ?_⟩, ⟨i'', l'', k + 1⟩, by simp only; omega, ⟨rfl, rfl, by simp only; omega⟩, ?_, ?_⟩⟩
          · rw [List.length_append]; simp only [List.length_singleton]; omega
          · rw [htk 61 (if_pos (by omega))]; exact ⟨rfl, rfl, rfl, rfl, rfl⟩
          · rw [htk 61 (if_pos (by omega))]; rfl
          · rw [List.length_append]; simp only [List.length_singleton]; omega
          · rw [htk b (if_neg (by omega))]; exact ⟨rfl, rfl, rfl, rfl, rfl⟩
          · rw [htk b (if_neg (by omega))]
        · have hk4 : k = 4 := by omega
          subst hk4
          have e4 : List.take 4 (f4 (tl s i'')) = f4 (tl s i'') := List.take_of_length_le (by rw [f4_len hne]; omega)
          rw [e4]
          refine ⟨⟨i'' + 3, l'' ++ f4 (tl s i''), 0⟩, by simp only; omega, ⟨by simp only; omega, ?_⟩, ⟨rfl, by rw [wrap64 (by omega) (by omega)]; simp only; omega⟩, rfl⟩
          simp only
          rw [← q2, e64_f4 (tl s i'') hne, List.append_assoc]
          congr 3
          simp [tl, Nat.add_comm]
  · have hnil : tl s i = [] := by unfold tl; rw [List.drop_eq_nil_iff, size_eq]; omega
    rw [hnil] at q2
    simp only [e64, List.append_nil] at q2
    refine ⟨Nat.le_refl _, ?_⟩
    rw [encS_e64, q2]
def rEncSpec : FSpec := encSpec
theorem ok : SpecOk Tryd.prog 16 encSpec :=
  plain_ok (C := CV Enc.tb) (fn := Tryd.f16) (c := bodyOf Tryd.f16) rfl Tryd.func16 (by rfl) (spOf_ok lV_ok) mixed (fun _ => rfl) (how := how Enc.tb) (fun s hs => walk s hs)

end Go.Proofs.YtkihnmpjpbfiaaaDoor.Mine.REnc
