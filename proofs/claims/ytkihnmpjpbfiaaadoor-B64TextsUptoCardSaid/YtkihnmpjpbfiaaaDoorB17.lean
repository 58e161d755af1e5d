/- The contract of the reference's Unhex. -/
import Derived.Test.YtkihnmpjpbfiaaaDoorB16
set_option linter.unusedVariables false
set_option linter.unusedSimpArgs false
namespace Go.Proofs.YtkihnmpjpbfiaaaDoor.Mine
open Go Go.Proofs.YtkihnmpjpbfiaaaDoor.Ev Go.Proofs
set_option maxRecDepth 100000

/-! ### The reference's Unhex -/
inductive RUR (s : ByteArray) (y : UX) : Prop where
  | mk (h1 : y.i ≤ s.size) (h2 : y.i % 2 = 0) (h3 : (unhT (s.data.toList.drop y.i)).map (y.l ++ ·) = unhT s.data.toList) (h4 : y.l.length ≤ y.i)
def ruInv (s : ByteArray) : LInv := { σ := UX, st := fun x => ⟨(((List.replicate 62 .u).set 0 (.str s)).set 4 (.s 0 1 (.l 0) (.e x.l.length))).set 5 (.i .i64 x.i), [.row (some 5) (.bytes x.l)], []⟩, m := fun x => s.size - x.i, rel := fun _ y => RUR s y }
/-- The number that some digits say. -/
def hn (tl : List UInt8) : Nat → Nat
  | 0 => 0
  | k + 1 => 16 * hn tl k + (hv (tl.getD k 0)).toNat
structure UK where
  i : Nat
  l : List UInt8
  k : Nat
inductive RUK (s : ByteArray) (x y : UK) : Prop where
  | mk (h1 : y.i = x.i) (h2 : y.l = x.l) (h3 : y.k ≤ 2) (h4 : ∀ j, j < y.k → 0 ≤ hv ((s.data.toList.drop x.i).getD j 0))
def ruInv2 (s : ByteArray) : LInv := { σ := UK, st := fun x => ⟨(((((List.replicate 62 .u).set 0 (.str s)).set 4 (.s 0 1 (.l 0) (.e x.l.length))).set 5 (.i .i64 x.i)).set 6 (.i .i64 (hn (s.data.toList.drop x.i) x.k))).set 7 (.i .i64 x.k), [.row (some 5) (.bytes x.l)], []⟩, m := fun x => 2 - x.k, rel := fun x y => RUK s x y }
def howRu (s : ByteArray) : Nat → How := fun id => match id with
  | 3 => .inv (ruInv s)
  | 7 => .inv (ruInv2 s)
  | _ => .unroll 1

theorem ru_vc  (s : ByteArray) : (awp C0 (howRu s) (bodyOf Tryd.f15) ⟨[.str s] ++ List.replicate 61 .u, [], []⟩ (finA C0.P Tryd.f15 0 (.t [.str (unN s), .c (unB s)]) [])) =
    (True ∧ True ∧ True ∧ True ∧ ∃ (x0 : Go.Proofs.YtkihnmpjpbfiaaaDoor.Mine.UX), Go.Proofs.YtkihnmpjpbfiaaaDoor.Mine.RUR s x0 ∧ ((s = s ∧ True ∧ True ∧ True ∧ ((0 : Nat) = (0 : Nat) ∧ List.length (Go.Proofs.YtkihnmpjpbfiaaaDoor.Mine.UX.l x0) = (0 : Nat)) ∧ (0 : Int) = (↑(Go.Proofs.YtkihnmpjpbfiaaaDoor.Mine.UX.i x0) : Int) ∧ True ∧ True ∧ True ∧ True ∧ True ∧ True ∧ True ∧ True ∧ True ∧ True ∧ True ∧ True ∧ True ∧ True ∧ True ∧ True ∧ True ∧ True ∧ True ∧ True ∧ True ∧ True ∧ True ∧ True ∧ True ∧ True ∧ True ∧ True ∧ True ∧ True ∧ True ∧ True ∧ True ∧ True ∧ True ∧ True ∧ True ∧ True ∧ True ∧ True ∧ True ∧ True ∧ True ∧ True ∧ True ∧ True ∧ True ∧ True ∧ True ∧ True ∧ True ∧ True ∧ True ∧ True ∧ True ∧ True ∧ True) ∧ True ∧ List.length (Go.Proofs.YtkihnmpjpbfiaaaDoor.Mine.UX.l x0) = (0 : Nat) ∧ True) ∧ ∀ (y : Go.Proofs.YtkihnmpjpbfiaaaDoor.Mine.UX), Go.Proofs.YtkihnmpjpbfiaaaDoor.Mine.RUR s y → True ∧ True ∧ True ∧ True ∧ True ∧ (Decidable.decide (Go.IntKind.wrap Go.IntKind.i64 ((↑(Go.Proofs.YtkihnmpjpbfiaaaDoor.Mine.UX.i y) : Int) + (1 : Int)) < (↑(ByteArray.size s) : Int)) = Bool.true → True ∧ True ∧ ∃ (x0 : Go.Proofs.YtkihnmpjpbfiaaaDoor.Mine.UK), Go.Proofs.YtkihnmpjpbfiaaaDoor.Mine.RUK s x0 x0 ∧ ((s = s ∧ True ∧ True ∧ True ∧ ((0 : Nat) = (0 : Nat) ∧ List.length (Go.Proofs.YtkihnmpjpbfiaaaDoor.Mine.UX.l y) = List.length (Go.Proofs.YtkihnmpjpbfiaaaDoor.Mine.UK.l x0)) ∧ (↑(Go.Proofs.YtkihnmpjpbfiaaaDoor.Mine.UX.i y) : Int) = (↑(Go.Proofs.YtkihnmpjpbfiaaaDoor.Mine.UK.i x0) : Int) ∧ (0 : Int) = (↑(Go.Proofs.YtkihnmpjpbfiaaaDoor.Mine.hn (List.drop (Go.Proofs.YtkihnmpjpbfiaaaDoor.Mine.UK.i x0) (Array.toList (ByteArray.data s))) (Go.Proofs.YtkihnmpjpbfiaaaDoor.Mine.UK.k x0)) : Int) ∧ (0 : Int) = (↑(Go.Proofs.YtkihnmpjpbfiaaaDoor.Mine.UK.k x0) : Int) ∧ True ∧ True ∧ True ∧ True ∧ True ∧ True ∧ True ∧ True ∧ True ∧ True ∧ True ∧ True ∧ True ∧ True ∧ True ∧ True ∧ True ∧ True ∧ True ∧ True ∧ True ∧ True ∧ True ∧ True ∧ True ∧ True ∧ True ∧ True ∧ True ∧ True ∧ True ∧ True ∧ True ∧ True ∧ True ∧ True ∧ True ∧ True ∧ True ∧ True ∧ True ∧ True ∧ True ∧ True ∧ True ∧ True ∧ True ∧ True ∧ True ∧ True ∧ True ∧ True ∧ True ∧ True ∧ True) ∧ True ∧ Go.Proofs.YtkihnmpjpbfiaaaDoor.Ev.RC.bytes (Go.Proofs.YtkihnmpjpbfiaaaDoor.Mine.UX.l y) = Go.Proofs.YtkihnmpjpbfiaaaDoor.Ev.RC.bytes (Go.Proofs.YtkihnmpjpbfiaaaDoor.Mine.UK.l x0) ∧ True) ∧ ∀ (y_1 : Go.Proofs.YtkihnmpjpbfiaaaDoor.Mine.UK), Go.Proofs.YtkihnmpjpbfiaaaDoor.Mine.RUK s x0 y_1 → True ∧ True ∧ (Decidable.decide ((↑(Go.Proofs.YtkihnmpjpbfiaaaDoor.Mine.UK.k y_1) : Int) < (2 : Int)) = Bool.true → True ∧ True ∧ True ∧ True ∧ ((0 : Int) ≤ Go.IntKind.wrap Go.IntKind.i64 ((↑(Go.Proofs.YtkihnmpjpbfiaaaDoor.Mine.UK.i y_1) : Int) + (↑(Go.Proofs.YtkihnmpjpbfiaaaDoor.Mine.UK.k y_1) : Int)) ∧ Go.IntKind.wrap Go.IntKind.i64 ((↑(Go.Proofs.YtkihnmpjpbfiaaaDoor.Mine.UK.i y_1) : Int) + (↑(Go.Proofs.YtkihnmpjpbfiaaaDoor.Mine.UK.k y_1) : Int)) < (↑(ByteArray.size s) : Int)) ∧ True ∧ True ∧ True ∧ True ∧ True ∧ (Decidable.decide (Go.IntKind.wrap Go.IntKind.i64 (↑(UInt8.toNat (match (Array.toList (ByteArray.data s))[Int.toNat (Go.IntKind.wrap Go.IntKind.i64 ((↑(Go.Proofs.YtkihnmpjpbfiaaaDoor.Mine.UK.i y_1) : Int) + (↑(Go.Proofs.YtkihnmpjpbfiaaaDoor.Mine.UK.k y_1) : Int)))]? with | Option.some x => x | Option.none => (0 : UInt8))) : Int) ≥ (48 : Int)) = Bool.true → True ∧ True ∧ True ∧ True ∧ (Decidable.decide (Go.IntKind.wrap Go.IntKind.i64 (↑(UInt8.toNat (match (Array.toList (ByteArray.data s))[Int.toNat (Go.IntKind.wrap Go.IntKind.i64 ((↑(Go.Proofs.YtkihnmpjpbfiaaaDoor.Mine.UK.i y_1) : Int) + (↑(Go.Proofs.YtkihnmpjpbfiaaaDoor.Mine.UK.k y_1) : Int)))]? with | Option.some x => x | Option.none => (0 : UInt8))) : Int) ≤ (57 : Int)) = Bool.true → True ∧ True ∧ True ∧ True ∧ True ∧ True ∧ True ∧ True ∧ True ∧ ∃ (y' : Go.Proofs.YtkihnmpjpbfiaaaDoor.Mine.UK), (2 : Nat) - Go.Proofs.YtkihnmpjpbfiaaaDoor.Mine.UK.k y' < (2 : Nat) - Go.Proofs.YtkihnmpjpbfiaaaDoor.Mine.UK.k y_1 ∧ Go.Proofs.YtkihnmpjpbfiaaaDoor.Mine.RUK s x0 y' ∧ (s = s ∧ True ∧ True ∧ True ∧ ((0 : Nat) = (0 : Nat) ∧ List.length (Go.Proofs.YtkihnmpjpbfiaaaDoor.Mine.UK.l y_1) = List.length (Go.Proofs.YtkihnmpjpbfiaaaDoor.Mine.UK.l y')) ∧ (↑(Go.Proofs.YtkihnmpjpbfiaaaDoor.Mine.UK.i y_1) : Int) = (↑(Go.Proofs.YtkihnmpjpbfiaaaDoor.Mine.UK.i y') : Int) ∧ Go.IntKind.wrap Go.IntKind.i64 (Go.IntKind.wrap Go.IntKind.i64 (Go.IntKind.wrap Go.IntKind.i64 ((16 : Int) * (↑(Go.Proofs.YtkihnmpjpbfiaaaDoor.Mine.hn (List.drop (Go.Proofs.YtkihnmpjpbfiaaaDoor.Mine.UK.i y_1) (Array.toList (ByteArray.data s))) (Go.Proofs.YtkihnmpjpbfiaaaDoor.Mine.UK.k y_1)) : Int)) + Go.IntKind.wrap Go.IntKind.i64 (↑(UInt8.toNat (match (Array.toList (ByteArray.data s))[Int.toNat (Go.IntKind.wrap Go.IntKind.i64 ((↑(Go.Proofs.YtkihnmpjpbfiaaaDoor.Mine.UK.i y_1) : Int) + (↑(Go.Proofs.YtkihnmpjpbfiaaaDoor.Mine.UK.k y_1) : Int)))]? with | Option.some x => x | Option.none => (0 : UInt8))) : Int)) - (48 : Int)) = (↑(Go.Proofs.YtkihnmpjpbfiaaaDoor.Mine.hn (List.drop (Go.Proofs.YtkihnmpjpbfiaaaDoor.Mine.UK.i y') (Array.toList (ByteArray.data s))) (Go.Proofs.YtkihnmpjpbfiaaaDoor.Mine.UK.k y')) : Int) ∧ Go.IntKind.wrap Go.IntKind.i64 ((↑(Go.Proofs.YtkihnmpjpbfiaaaDoor.Mine.UK.k y_1) : Int) + (1 : Int)) = (↑(Go.Proofs.YtkihnmpjpbfiaaaDoor.Mine.UK.k y') : Int) ∧ True ∧ True ∧ True ∧ True ∧ True ∧ True ∧ True ∧ True ∧ True ∧ True ∧ True ∧ True ∧ True ∧ True ∧ True ∧ True ∧ True ∧ True ∧ True ∧ True ∧ True ∧ True ∧ True ∧ True ∧ True ∧ True ∧ True ∧ True ∧ True ∧ True ∧ True ∧ True ∧ True ∧ True ∧ True ∧ True ∧ True ∧ True ∧ True ∧ True ∧ True ∧ True ∧ True ∧ True ∧ True ∧ True ∧ True ∧ True ∧ True ∧ True ∧ True ∧ True ∧ True ∧ True ∧ True) ∧ True ∧ Go.Proofs.YtkihnmpjpbfiaaaDoor.Ev.RC.bytes (Go.Proofs.YtkihnmpjpbfiaaaDoor.Mine.UK.l y_1) = Go.Proofs.YtkihnmpjpbfiaaaDoor.Ev.RC.bytes (Go.Proofs.YtkihnmpjpbfiaaaDoor.Mine.UK.l y') ∧ True) ∧ (Decidable.decide (Go.IntKind.wrap Go.IntKind.i64 (↑(UInt8.toNat (match (Array.toList (ByteArray.data s))[Int.toNat (Go.IntKind.wrap Go.IntKind.i64 ((↑(Go.Proofs.YtkihnmpjpbfiaaaDoor.Mine.UK.i y_1) : Int) + (↑(Go.Proofs.YtkihnmpjpbfiaaaDoor.Mine.UK.k y_1) : Int)))]? with | Option.some x => x | Option.none => (0 : UInt8))) : Int) ≤ (57 : Int)) = Bool.false → True ∧ True ∧ True ∧ (Decidable.decide (Go.IntKind.wrap Go.IntKind.i64 (↑(UInt8.toNat (match (Array.toList (ByteArray.data s))[Int.toNat (Go.IntKind.wrap Go.IntKind.i64 ((↑(Go.Proofs.YtkihnmpjpbfiaaaDoor.Mine.UK.i y_1) : Int) + (↑(Go.Proofs.YtkihnmpjpbfiaaaDoor.Mine.UK.k y_1) : Int)))]? with | Option.some x => x | Option.none => (0 : UInt8))) : Int) ≥ (97 : Int)) = Bool.true → True ∧ True ∧ True ∧ True ∧ (Decidable.decide (Go.IntKind.wrap Go.IntKind.i64 (↑(UInt8.toNat (match (Array.toList (ByteArray.data s))[Int.toNat (Go.IntKind.wrap Go.IntKind.i64 ((↑(Go.Proofs.YtkihnmpjpbfiaaaDoor.Mine.UK.i y_1) : Int) + (↑(Go.Proofs.YtkihnmpjpbfiaaaDoor.Mine.UK.k y_1) : Int)))]? with | Option.some x => x | Option.none => (0 : UInt8))) : Int) ≤ (102 : Int)) = Bool.true → True ∧ True ∧ True ∧ True ∧ True ∧ True ∧ True ∧ True ∧ True ∧ True ∧ ∃ (y' : Go.Proofs.YtkihnmpjpbfiaaaDoor.Mine.UK), (2 : Nat) - Go.Proofs.YtkihnmpjpbfiaaaDoor.Mine.UK.k y' < (2 : Nat) - Go.Proofs.YtkihnmpjpbfiaaaDoor.Mine.UK.k y_1 ∧ Go.Proofs.YtkihnmpjpbfiaaaDoor.Mine.RUK s x0 y' ∧ (s = s ∧ True ∧ True ∧ True ∧ ((0 : Nat) = (0 : Nat) ∧ List.length (Go.Proofs.YtkihnmpjpbfiaaaDoor.Mine.UK.l y_1) = List.length (Go.Proofs.YtkihnmpjpbfiaaaDoor.Mine.UK.l y')) ∧ (↑(Go.Proofs.YtkihnmpjpbfiaaaDoor.Mine.UK.i y_1) : Int) = (↑(Go.Proofs.YtkihnmpjpbfiaaaDoor.Mine.UK.i y') : Int) ∧ Go.IntKind.wrap Go.IntKind.i64 (Go.IntKind.wrap Go.IntKind.i64 (Go.IntKind.wrap Go.IntKind.i64 (Go.IntKind.wrap Go.IntKind.i64 ((16 : Int) * (↑(Go.Proofs.YtkihnmpjpbfiaaaDoor.Mine.hn (List.drop (Go.Proofs.YtkihnmpjpbfiaaaDoor.Mine.UK.i y_1) (Array.toList (ByteArray.data s))) (Go.Proofs.YtkihnmpjpbfiaaaDoor.Mine.UK.k y_1)) : Int)) + Go.IntKind.wrap Go.IntKind.i64 (↑(UInt8.toNat (match (Array.toList (ByteArray.data s))[Int.toNat (Go.IntKind.wrap Go.IntKind.i64 ((↑(Go.Proofs.YtkihnmpjpbfiaaaDoor.Mine.UK.i y_1) : Int) + (↑(Go.Proofs.YtkihnmpjpbfiaaaDoor.Mine.UK.k y_1) : Int)))]? with | Option.some x => x | Option.none => (0 : UInt8))) : Int)) - (97 : Int)) + (10 : Int)) = (↑(Go.Proofs.YtkihnmpjpbfiaaaDoor.Mine.hn (List.drop (Go.Proofs.YtkihnmpjpbfiaaaDoor.Mine.UK.i y') (Array.toList (ByteArray.data s))) (Go.Proofs.YtkihnmpjpbfiaaaDoor.Mine.UK.k y')) : Int) ∧ Go.IntKind.wrap Go.IntKind.i64 ((↑(Go.Proofs.YtkihnmpjpbfiaaaDoor.Mine.UK.k y_1) : Int) + (1 : Int)) = (↑(Go.Proofs.YtkihnmpjpbfiaaaDoor.Mine.UK.k y') : Int) ∧ True ∧ True ∧ True ∧ True ∧ True ∧ True ∧ True ∧ True ∧ True ∧ True ∧ True ∧ True ∧ True ∧ True ∧ True ∧ True ∧ True ∧ True ∧ True ∧ True ∧ True ∧ True ∧ True ∧ True ∧ True ∧ True ∧ True ∧ True ∧ True ∧ True ∧ True ∧ True ∧ True ∧ True ∧ True ∧ True ∧ True ∧ True ∧ True ∧ True ∧ True ∧ True ∧ True ∧ True ∧ True ∧ True ∧ True ∧ True ∧ True ∧ True ∧ True ∧ True ∧ True ∧ True ∧ True) ∧ True ∧ Go.Proofs.YtkihnmpjpbfiaaaDoor.Ev.RC.bytes (Go.Proofs.YtkihnmpjpbfiaaaDoor.Mine.UK.l y_1) = Go.Proofs.YtkihnmpjpbfiaaaDoor.Ev.RC.bytes (Go.Proofs.YtkihnmpjpbfiaaaDoor.Mine.UK.l y') ∧ True) ∧ (Decidable.decide (Go.IntKind.wrap Go.IntKind.i64 (↑(UInt8.toNat (match (Array.toList (ByteArray.data s))[Int.toNat (Go.IntKind.wrap Go.IntKind.i64 ((↑(Go.Proofs.YtkihnmpjpbfiaaaDoor.Mine.UK.i y_1) : Int) + (↑(Go.Proofs.YtkihnmpjpbfiaaaDoor.Mine.UK.k y_1) : Int)))]? with | Option.some x => x | Option.none => (0 : UInt8))) : Int) ≤ (102 : Int)) = Bool.false → True ∧ True ∧ ((ByteArray.mk #[] = Go.Proofs.YtkihnmpjpbfiaaaDoor.Mine.unN s ∧ Bool.false = Go.Proofs.YtkihnmpjpbfiaaaDoor.Mine.unB s ∧ True) ∧ True) ∧ True ∧ True)) ∧ (Decidable.decide (Go.IntKind.wrap Go.IntKind.i64 (↑(UInt8.toNat (match (Array.toList (ByteArray.data s))[Int.toNat (Go.IntKind.wrap Go.IntKind.i64 ((↑(Go.Proofs.YtkihnmpjpbfiaaaDoor.Mine.UK.i y_1) : Int) + (↑(Go.Proofs.YtkihnmpjpbfiaaaDoor.Mine.UK.k y_1) : Int)))]? with | Option.some x => x | Option.none => (0 : UInt8))) : Int) ≥ (97 : Int)) = Bool.false → True ∧ True ∧ True ∧ True ∧ ((ByteArray.mk #[] = Go.Proofs.YtkihnmpjpbfiaaaDoor.Mine.unN s ∧ Bool.false = Go.Proofs.YtkihnmpjpbfiaaaDoor.Mine.unB s ∧ True) ∧ True) ∧ True ∧ True))) ∧ (Decidable.decide (Go.IntKind.wrap Go.IntKind.i64 (↑(UInt8.toNat (match (Array.toList (ByteArray.data s))[Int.toNat (Go.IntKind.wrap Go.IntKind.i64 ((↑(Go.Proofs.YtkihnmpjpbfiaaaDoor.Mine.UK.i y_1) : Int) + (↑(Go.Proofs.YtkihnmpjpbfiaaaDoor.Mine.UK.k y_1) : Int)))]? with | Option.some x => x | Option.none => (0 : UInt8))) : Int) ≥ (48 : Int)) = Bool.false → True ∧ True ∧ True ∧ True ∧ True ∧ (Decidable.decide (Go.IntKind.wrap Go.IntKind.i64 (↑(UInt8.toNat (match (Array.toList (ByteArray.data s))[Int.toNat (Go.IntKind.wrap Go.IntKind.i64 ((↑(Go.Proofs.YtkihnmpjpbfiaaaDoor.Mine.UK.i y_1) : Int) + (↑(Go.Proofs.YtkihnmpjpbfiaaaDoor.Mine.UK.k y_1) : Int)))]? with | Option.some x => x | Option.none => (0 : UInt8))) : Int) ≥ (97 : Int)) = Bool.true → True ∧ True ∧ True ∧ True ∧ (Decidable.decide (Go.IntKind.wrap Go.IntKind.i64 (↑(UInt8.toNat (match (Array.toList (ByteArray.data s))[Int.toNat (Go.IntKind.wrap Go.IntKind.i64 ((↑(Go.Proofs.YtkihnmpjpbfiaaaDoor.Mine.UK.i y_1) : Int) + (↑(Go.Proofs.YtkihnmpjpbfiaaaDoor.Mine.UK.k y_1) : Int)))]? with | Option.some x => x | Option.none => (0 : UInt8))) : Int) ≤ (102 : Int)) = Bool.true → True ∧ True ∧ True ∧ True ∧ True ∧ True ∧ True ∧ True ∧ True ∧ True ∧ ∃ (y' : Go.Proofs.YtkihnmpjpbfiaaaDoor.Mine.UK), (2 : Nat) - Go.Proofs.YtkihnmpjpbfiaaaDoor.Mine.UK.k y' < (2 : Nat) - Go.Proofs.YtkihnmpjpbfiaaaDoor.Mine.UK.k y_1 ∧ Go.Proofs.YtkihnmpjpbfiaaaDoor.Mine.RUK s x0 y' ∧ (s = s ∧ True ∧ True ∧ True ∧ ((0 : Nat) = (0 : Nat) ∧ List.length (Go.Proofs.YtkihnmpjpbfiaaaDoor.Mine.UK.l y_1) = List.length (Go.Proofs.YtkihnmpjpbfiaaaDoor.Mine.UK.l y')) ∧ (↑(Go.Proofs.YtkihnmpjpbfiaaaDoor.Mine.UK.i y_1) : Int) = (↑(Go.Proofs.YtkihnmpjpbfiaaaDoor.Mine.UK.i y') : Int) ∧ Go.IntKind.wrap Go.IntKind.i64 (Go.IntKind.wrap Go.IntKind.i64 (Go.IntKind.wrap Go.IntKind.i64 (Go.IntKind.wrap Go.IntKind.i64 ((16 : Int) * (↑(Go.Proofs.YtkihnmpjpbfiaaaDoor.Mine.hn (List.drop (Go.Proofs.YtkihnmpjpbfiaaaDoor.Mine.UK.i y_1) (Array.toList (ByteArray.data s))) (Go.Proofs.YtkihnmpjpbfiaaaDoor.Mine.UK.k y_1)) : Int)) + Go.IntKind.wrap Go.IntKind.i64 (↑(UInt8.toNat (match (Array.toList (ByteArray.data s))[Int.toNat (Go.IntKind.wrap Go.IntKind.i64 ((↑(Go.Proofs.YtkihnmpjpbfiaaaDoor.Mine.UK.i y_1) : Int) + (↑(Go.Proofs.YtkihnmpjpbfiaaaDoor.Mine.UK.k y_1) : Int)))]? with | Option.some x => x | Option.none => (0 : UInt8))) : Int)) - (97 : Int)) + (10 : Int)) = (↑(Go.Proofs.YtkihnmpjpbfiaaaDoor.Mine.hn (List.drop (Go.Proofs.YtkihnmpjpbfiaaaDoor.Mine.UK.i y') (Array.toList (ByteArray.data s))) (Go.Proofs.YtkihnmpjpbfiaaaDoor.Mine.UK.k y')) : Int) ∧ Go.IntKind.wrap Go.IntKind.i64 ((↑(Go.Proofs.YtkihnmpjpbfiaaaDoor.Mine.UK.k y_1) : Int) + (1 : Int)) = (↑(Go.Proofs.YtkihnmpjpbfiaaaDoor.Mine.UK.k y') : Int) ∧ True ∧ True ∧ True ∧ True ∧ True ∧ True ∧ True ∧ True ∧ True ∧ True ∧ True ∧ True ∧ True ∧ True ∧ True ∧ True ∧ True ∧ True ∧ True ∧ True ∧ True ∧ True ∧ True ∧ True ∧ True ∧ True ∧ True ∧ True ∧ True ∧ True ∧ True ∧ True ∧ True ∧ True ∧ True ∧ True ∧ True ∧ True ∧ True ∧ True ∧ True ∧ True ∧ True ∧ True ∧ True ∧ True ∧ True ∧ True ∧ True ∧ True ∧ True ∧ True ∧ True ∧ True ∧ True) ∧ True ∧ Go.Proofs.YtkihnmpjpbfiaaaDoor.Ev.RC.bytes (Go.Proofs.YtkihnmpjpbfiaaaDoor.Mine.UK.l y_1) = Go.Proofs.YtkihnmpjpbfiaaaDoor.Ev.RC.bytes (Go.Proofs.YtkihnmpjpbfiaaaDoor.Mine.UK.l y') ∧ True) ∧ (Decidable.decide (Go.IntKind.wrap Go.IntKind.i64 (↑(UInt8.toNat (match (Array.toList (ByteArray.data s))[Int.toNat (Go.IntKind.wrap Go.IntKind.i64 ((↑(Go.Proofs.YtkihnmpjpbfiaaaDoor.Mine.UK.i y_1) : Int) + (↑(Go.Proofs.YtkihnmpjpbfiaaaDoor.Mine.UK.k y_1) : Int)))]? with | Option.some x => x | Option.none => (0 : UInt8))) : Int) ≤ (102 : Int)) = Bool.false → True ∧ True ∧ ((ByteArray.mk #[] = Go.Proofs.YtkihnmpjpbfiaaaDoor.Mine.unN s ∧ Bool.false = Go.Proofs.YtkihnmpjpbfiaaaDoor.Mine.unB s ∧ True) ∧ True) ∧ True ∧ True)) ∧ (Decidable.decide (Go.IntKind.wrap Go.IntKind.i64 (↑(UInt8.toNat (match (Array.toList (ByteArray.data s))[Int.toNat (Go.IntKind.wrap Go.IntKind.i64 ((↑(Go.Proofs.YtkihnmpjpbfiaaaDoor.Mine.UK.i y_1) : Int) + (↑(Go.Proofs.YtkihnmpjpbfiaaaDoor.Mine.UK.k y_1) : Int)))]? with | Option.some x => x | Option.none => (0 : UInt8))) : Int) ≥ (97 : Int)) = Bool.false → True ∧ True ∧ True ∧ True ∧ ((ByteArray.mk #[] = Go.Proofs.YtkihnmpjpbfiaaaDoor.Mine.unN s ∧ Bool.false = Go.Proofs.YtkihnmpjpbfiaaaDoor.Mine.unB s ∧ True) ∧ True) ∧ True ∧ True))) ∧ (Decidable.decide ((↑(Go.Proofs.YtkihnmpjpbfiaaaDoor.Mine.UK.k y_1) : Int) < (2 : Int)) = Bool.false → True ∧ True ∧ True ∧ True ∧ ((((0 : Int) ≤ Go.IntKind.wrap Go.IntKind.u8 (↑(Go.Proofs.YtkihnmpjpbfiaaaDoor.Mine.hn (List.drop (Go.Proofs.YtkihnmpjpbfiaaaDoor.Mine.UK.i y_1) (Array.toList (ByteArray.data s))) (Go.Proofs.YtkihnmpjpbfiaaaDoor.Mine.UK.k y_1)) : Int) ∧ Go.IntKind.wrap Go.IntKind.u8 (↑(Go.Proofs.YtkihnmpjpbfiaaaDoor.Mine.hn (List.drop (Go.Proofs.YtkihnmpjpbfiaaaDoor.Mine.UK.i y_1) (Array.toList (ByteArray.data s))) (Go.Proofs.YtkihnmpjpbfiaaaDoor.Mine.UK.k y_1)) : Int) < (256 : Int)) ∧ True) ∧ (0 : Nat) + List.length (Go.Proofs.YtkihnmpjpbfiaaaDoor.Mine.UK.l y_1) = List.length (Go.Proofs.YtkihnmpjpbfiaaaDoor.Mine.UK.l y_1) ∧ List.length (List.take (List.length (Go.Proofs.YtkihnmpjpbfiaaaDoor.Mine.UK.l y_1)) (List.drop (0 : Nat) (Go.Proofs.YtkihnmpjpbfiaaaDoor.Mine.UK.l y_1)) ++ [UInt8.ofNat (Int.toNat (Go.IntKind.wrap Go.IntKind.u8 (↑(Go.Proofs.YtkihnmpjpbfiaaaDoor.Mine.hn (List.drop (Go.Proofs.YtkihnmpjpbfiaaaDoor.Mine.UK.i y_1) (Array.toList (ByteArray.data s))) (Go.Proofs.YtkihnmpjpbfiaaaDoor.Mine.UK.k y_1)) : Int)))]) * (1 : Nat) ≤ (140737488355328 : Nat)) ∧ True ∧ True ∧ True ∧ True ∧ ∃ (y' : Go.Proofs.YtkihnmpjpbfiaaaDoor.Mine.UX), ByteArray.size s - Go.Proofs.YtkihnmpjpbfiaaaDoor.Mine.UX.i y' < ByteArray.size s - Go.Proofs.YtkihnmpjpbfiaaaDoor.Mine.UX.i y ∧ Go.Proofs.YtkihnmpjpbfiaaaDoor.Mine.RUR s y' ∧ (s = s ∧ True ∧ True ∧ True ∧ ((0 : Nat) = (0 : Nat) ∧ List.length (List.take (List.length (Go.Proofs.YtkihnmpjpbfiaaaDoor.Mine.UK.l y_1)) (List.drop (0 : Nat) (Go.Proofs.YtkihnmpjpbfiaaaDoor.Mine.UK.l y_1)) ++ [UInt8.ofNat (Int.toNat (Go.IntKind.wrap Go.IntKind.u8 (↑(Go.Proofs.YtkihnmpjpbfiaaaDoor.Mine.hn (List.drop (Go.Proofs.YtkihnmpjpbfiaaaDoor.Mine.UK.i y_1) (Array.toList (ByteArray.data s))) (Go.Proofs.YtkihnmpjpbfiaaaDoor.Mine.UK.k y_1)) : Int)))]) = List.length (Go.Proofs.YtkihnmpjpbfiaaaDoor.Mine.UX.l y')) ∧ Go.IntKind.wrap Go.IntKind.i64 ((↑(Go.Proofs.YtkihnmpjpbfiaaaDoor.Mine.UK.i y_1) : Int) + (2 : Int)) = (↑(Go.Proofs.YtkihnmpjpbfiaaaDoor.Mine.UX.i y') : Int) ∧ True ∧ True ∧ True ∧ True ∧ True ∧ True ∧ True ∧ True ∧ True ∧ True ∧ True ∧ True ∧ True ∧ True ∧ True ∧ True ∧ True ∧ True ∧ True ∧ True ∧ True ∧ True ∧ True ∧ True ∧ True ∧ True ∧ True ∧ True ∧ True ∧ True ∧ True ∧ True ∧ True ∧ True ∧ True ∧ True ∧ True ∧ True ∧ True ∧ True ∧ True ∧ True ∧ True ∧ True ∧ True ∧ True ∧ True ∧ True ∧ True ∧ True ∧ True ∧ True ∧ True ∧ True ∧ True ∧ True ∧ True) ∧ True ∧ Go.Proofs.YtkihnmpjpbfiaaaDoor.Ev.RC.bytes (List.take (List.length (Go.Proofs.YtkihnmpjpbfiaaaDoor.Mine.UK.l y_1)) (List.drop (0 : Nat) (Go.Proofs.YtkihnmpjpbfiaaaDoor.Mine.UK.l y_1)) ++ [UInt8.ofNat (Int.toNat (Go.IntKind.wrap Go.IntKind.u8 (↑(Go.Proofs.YtkihnmpjpbfiaaaDoor.Mine.hn (List.drop (Go.Proofs.YtkihnmpjpbfiaaaDoor.Mine.UK.i y_1) (Array.toList (ByteArray.data s))) (Go.Proofs.YtkihnmpjpbfiaaaDoor.Mine.UK.k y_1)) : Int)))]) = Go.Proofs.YtkihnmpjpbfiaaaDoor.Ev.RC.bytes (Go.Proofs.YtkihnmpjpbfiaaaDoor.Mine.UX.l y') ∧ True)) ∧ (Decidable.decide (Go.IntKind.wrap Go.IntKind.i64 ((↑(Go.Proofs.YtkihnmpjpbfiaaaDoor.Mine.UX.i y) : Int) + (1 : Int)) < (↑(ByteArray.size s) : Int)) = Bool.false → True ∧ True ∧ True ∧ True ∧ ((Int.tmod (↑(ByteArray.size s) : Int) (2 : Int) != (0 : Int)) = Bool.true → True ∧ True ∧ ((ByteArray.mk #[] = Go.Proofs.YtkihnmpjpbfiaaaDoor.Mine.unN s ∧ Bool.false = Go.Proofs.YtkihnmpjpbfiaaaDoor.Mine.unB s ∧ True) ∧ True) ∧ True ∧ True) ∧ ((Int.tmod (↑(ByteArray.size s) : Int) (2 : Int) != (0 : Int)) = Bool.false → True ∧ (0 : Nat) + List.length (Go.Proofs.YtkihnmpjpbfiaaaDoor.Mine.UX.l y) ≤ List.length (Go.Proofs.YtkihnmpjpbfiaaaDoor.Mine.UX.l y) ∧ True ∧ True ∧ ((ByteArray.mk (List.toArray (List.take (List.length (Go.Proofs.YtkihnmpjpbfiaaaDoor.Mine.UX.l y)) (List.drop (0 : Nat) (Go.Proofs.YtkihnmpjpbfiaaaDoor.Mine.UX.l y)))) = Go.Proofs.YtkihnmpjpbfiaaaDoor.Mine.unN s ∧ Bool.true = Go.Proofs.YtkihnmpjpbfiaaaDoor.Mine.unB s ∧ True) ∧ True) ∧ True ∧ True))) := by kernel_rfl

theorem hv_dec : ∀ n : Nat, n < 256 → hv (UInt8.ofNat n) = if 48 ≤ n ∧ n ≤ 57 then (n : Int) - 48 else if 97 ≤ n ∧ n ≤ 102 then (n : Int) - 87 else -1 := by
  decide +kernel
theorem hv_eq (b : UInt8) : hv b = if 48 ≤ b.toNat ∧ b.toNat ≤ 57 then (b.toNat : Int) - 48 else if 97 ≤ b.toNat ∧ b.toNat ≤ 102 then (b.toNat : Int) - 87 else -1 := by
  have := hv_dec b.toNat b.toNat_lt
  rwa [UInt8.ofNat_toNat] at this
theorem hn_lt (tl : List UInt8) : hn tl 1 < 16 ∧ hn tl 2 < 256 := by
  have h : ∀ b, (hv b).toNat < 16 := fun b => by have := hv_lt b; omega
  have h0 := h (tl.getD 0 0)
  have h1 := h (tl.getD 1 0)
  simp only [hn]; omega

theorem ru_walk (s : ByteArray) (hs : s.size ≤ 2 ^ 40) : awp C0 (howRu s) (bodyOf Tryd.f15) ⟨[.str s] ++ List.replicate 61 .u, [], []⟩ (finA C0.P Tryd.f15 0 (.t [.str (unN s), .c (unB s)]) []) := by
  rw [ru_vc]
  simp only [true_and, and_true, decide_eq_true_eq, decide_eq_false_iff_not, beq_iff_eq, beq_eq_false_iff_ne, bne_iff_ne, bne_eq_false_iff_eq, List.drop_zero, List.take_length, Nat.zero_add]
  have none' : unhT s.data.toList = none → ByteArray.mk #[] = unN s ∧ false = unB s := fun h => by
    simp [unN, unB, h]
  refine ⟨⟨0, []⟩, ⟨Nat.zero_le _, rfl, by simp, Nat.le_refl _⟩, ⟨⟨rfl, rfl⟩, rfl⟩, ?_⟩
  rintro ⟨i, l⟩ ⟨q1, q2, q3, q4⟩
  simp only at q1 q2 q3 q4 ⊢
  have w0 : IntKind.wrap .i64 ((i : Int) + 1) = ((i + 1 : Nat) : Int) := by rw [wrap64 (by omega) (by omega)]; omega
  rw [w0]
  refine ⟨fun hi => ?_, fun hi => ?_⟩
  · obtain ⟨b0, hb00, hbd0⟩ := byte_at (s := s) (i := i) (by omega)
    obtain ⟨b1, hb10, hbd1⟩ := byte_at (s := s) (i := i + 1) (by omega)
    have hv2 := hn_lt (s.data.toList.drop i)
    refine ⟨⟨i, l, 0⟩, ⟨rfl, rfl, Nat.zero_le _, fun j hj => absurd hj (Nat.not_lt_zero j)⟩, ⟨⟨rfl, rfl, rfl, rfl⟩, rfl⟩, ?_⟩
    rintro ⟨i', l', k⟩ ⟨r1, r2, r3, r4⟩
    simp only at r1 r2 r3 r4
    subst r1 r2
    simp only
    refine ⟨fun hk => ?_, fun hk => ?_⟩
    · have w1 : IntKind.wrap .i64 ((i' : Int) + k) = ((i' + k : Nat) : Int) := by rw [wrap64 (by omega) (by omega)]; omega
      have w2 : IntKind.wrap .i64 ((k : Int) + 1) = ((k + 1 : Nat) : Int) := by rw [wrap64 (by omega) (by omega)]; omega
      have hnk : hn (s.data.toList.drop i') k < 16 := by
        have : k = 0 ∨ k = 1 := by omega
        rcases this with rfl | rfl
        · simp [hn]
        · omega
      obtain ⟨b, hb0, hbd⟩ := byte_at (s := s) (i := i' + k) (by omega)
      have hg : (s.data.toList.drop i').getD k 0 = b := by
        simp [List.getD_eq_getElem?_getD, List.getElem?_drop, hb0]
      rw [w1, w2, Int.toNat_natCast, hb0]
      simp only
      have hbl := b.toNat_lt
      rw [wrapN (a := b.toNat) (by omega)]
      have hve := hv_eq b
      have fail : hv b < 0 → ByteArray.mk #[] = unN s ∧ false = unB s := fun hneg => none' (by
        have hk2 : k = 0 ∨ k = 1 := by omega
        rw [← q3, hbd0, hbd1]
        rcases hk2 with rfl | rfl
        · have : b0 = b := by rw [Nat.add_zero] at hb0; rw [hb00] at hb0; cases hb0; rfl
          subst this
          simp [unhT, hneg]
        · have : b1 = b := by rw [hb10] at hb0; cases hb0; rfl
          subst this
          simp [unhT, hneg])
      have good : 0 ≤ hv b → ∀ e : Int, e = 16 * (hn (s.data.toList.drop i') k : Int) + hv b →
          ∃ y' : UK, 2 - y'.k < 2 - k ∧ RUK s ⟨i', l', 0⟩ y' ∧ (l'.length = y'.l.length ∧ (i' : Int) = (y'.i : Int) ∧ e = (hn (s.data.toList.drop y'.i) y'.k : Int) ∧ ((k + 1 : Nat) : Int) = (y'.k : Int)) ∧ RC.bytes l' = RC.bytes y'.l := by
        intro hp e he
        refine ⟨⟨i', l', k + 1⟩, by simp only; omega, ⟨rfl, rfl, by simp only; omega, ?_⟩, ⟨rfl, rfl, ?_, rfl⟩, rfl⟩
        · intro j hj
          simp only at hj
          rcases Nat.lt_or_ge j k with h | h
          · exact r4 j h
          · have : j = k := by omega
            subst this
            simp only; rw [hg]; exact hp
        · simp only [hn, hg]; omega
      have a1 : IntKind.wrap .i64 (16 * (hn (s.data.toList.drop i') k : Int)) = 16 * (hn (s.data.toList.drop i') k : Int) := wrap64 (by omega) (by omega)
      have a2 : IntKind.wrap .i64 (16 * (hn (s.data.toList.drop i') k : Int) + (b.toNat : Int)) = 16 * (hn (s.data.toList.drop i') k : Int) + (b.toNat : Int) := wrap64 (by omega) (by omega)
      have a3 : IntKind.wrap .i64 (16 * (hn (s.data.toList.drop i') k : Int) + (b.toNat : Int) - 48) = 16 * (hn (s.data.toList.drop i') k : Int) + (b.toNat : Int) - 48 := wrap64 (by omega) (by omega)
      have a4 : IntKind.wrap .i64 (16 * (hn (s.data.toList.drop i') k : Int) + (b.toNat : Int) - 97) = 16 * (hn (s.data.toList.drop i') k : Int) + (b.toNat : Int) - 97 := wrap64 (by omega) (by omega)
      have a5 : IntKind.wrap .i64 (16 * (hn (s.data.toList.drop i') k : Int) + (b.toNat : Int) - 97 + 10) = 16 * (hn (s.data.toList.drop i') k : Int) + (b.toNat : Int) - 97 + 10 := wrap64 (by omega) (by omega)
      rw [a1, a2, a3, a4, a5]
      refine ⟨⟨by omega, by omega⟩, fun h1 => ⟨fun h2 => ?_, fun h2 => ⟨fun h3 => ⟨fun h4 => ?_, fun h4 => ?_⟩, fun h3 => ?_⟩⟩, fun h1 => ⟨fun h3 => ⟨fun h4 => ?_, fun h4 => ?_⟩, fun h3 => ?_⟩⟩
      · rw [if_pos (by omega)] at hve
        exact good (by omega) _ (by omega)
      · rw [if_neg (by omega), if_pos (by omega)] at hve
        exact good (by omega) _ (by omega)
      · rw [if_neg (by omega), if_neg (by omega)] at hve
        exact fail (by omega)
      · rw [if_neg (by omega), if_neg (by omega)] at hve
        exact fail (by omega)
      · rw [if_neg (by omega), if_pos (by omega)] at hve
        exact good (by omega) _ (by omega)
      · rw [if_neg (by omega), if_neg (by omega)] at hve
        exact fail (by omega)
      · rw [if_neg (by omega), if_neg (by omega)] at hve
        exact fail (by omega)
    · have hk2 : k = 2 := by omega
      subst hk2
      have h0 : 0 ≤ hv b0 := by
        have := r4 0 (by decide)
        rw [hbd0] at this; simpa using this
      have h1 : 0 ≤ hv b1 := by
        have := r4 1 (by decide)
        rw [hbd0, hbd1] at this; simpa using this
      have l0 := hv_lt b0
      have l1 := hv_lt b1
      have hh : (hn (s.data.toList.drop i') 2 : Int) = 16 * hv b0 + hv b1 := by
        rw [hbd0, hbd1]
        simp [hn]; omega
      have hw : IntKind.wrap .u8 (hn (s.data.toList.drop i') 2 : Int) = (hn (s.data.toList.drop i') 2 : Int) := wrap8 (by omega)
      rw [hw, Int.toNat_natCast]
      refine ⟨⟨⟨by omega, by omega⟩, by rw [List.length_append]; simp only [List.length_singleton]; omega⟩, ⟨i' + 2, _⟩, by simp only; omega, ⟨by simp only; omega, by simp only; omega, ?_, ?_⟩, ⟨rfl, by rw [wrap64 (by omega) (by omega)]; simp only; omega⟩, rfl⟩
      · simp only
        rw [← q3, hbd0, hbd1]
        have hne : ¬ (hv b0 < 0 ∨ hv b1 < 0) := by omega
        simp only [unhT, if_neg hne]
        have e : UInt8.ofNat (hn (b0 :: b1 :: s.data.toList.drop (i' + 1 + 1)) 2) = UInt8.ofNat (16 * hv b0 + hv b1).toNat := by
          congr 1
          rw [hbd0, hbd1] at hh
          omega
        rw [e]
        cases unhT (s.data.toList.drop (i' + 1 + 1)) <;> simp
      · rw [List.length_append]; simp only [List.length_singleton]; omega
  · have e1 : ((s.size : Int)).tmod 2 = ((s.size % 2 : Nat) : Int) := by rw [Int.tmod_eq_emod_of_nonneg (by omega)]; omega
    rw [e1]
    refine ⟨fun h => none' ?_, fun h => ?_⟩
    · obtain ⟨b, _, hbd⟩ := byte_at (s := s) (i := i) (by omega)
      have hn1 : s.data.toList.drop (i + 1) = [] := by rw [List.drop_eq_nil_iff, size_eq]; omega
      rw [← q3, hbd, hn1]; rfl
    · have hn0 : s.data.toList.drop i = [] := by rw [List.drop_eq_nil_iff, size_eq]; omega
      rw [hn0] at q3
      simp only [unhT, Option.map_some, List.append_nil] at q3
      exact ⟨Nat.le_refl _, by simp [unN, ← q3], by simp [unB, ← q3]⟩
theorem ru_ok : SpecOk Tryd.prog 15 unSpec :=
  plain_ok (C := C0) (fn := Tryd.f15) (c := bodyOf Tryd.f15) rfl Tryd.func15 (by rfl) sp0_ok mixed (fun _ => rfl) (how := howRu) (fun s hs => ru_walk s hs)

end Go.Proofs.YtkihnmpjpbfiaaaDoor.Mine
