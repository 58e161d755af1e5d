/- The contract of b64.Unhex. -/
import Derived.Test.YtkihnmpjpbfiaaaDoorB15
set_option linter.unusedVariables false
set_option linter.unusedSimpArgs false
namespace Go.Proofs.YtkihnmpjpbfiaaaDoor.Mine
open Go Go.Proofs.YtkihnmpjpbfiaaaDoor.Ev Go.Proofs
set_option maxRecDepth 100000

/-! ### Hex digits read -/
def hv (b : UInt8) : Int := Lib.indexByte Hx.tb.data.toList b
def unhT : List UInt8 → Option (List UInt8)
  | [] => some []
  | [_] => none
  | a :: b :: r => if hv a < 0 ∨ hv b < 0 then none else match unhT r with
    | some v => some (UInt8.ofNat (16 * hv a + hv b).toNat :: v)
    | none => none
def unN (s : ByteArray) : ByteArray := ⟨((unhT s.data.toList).getD []).toArray⟩
def unB (s : ByteArray) : Bool := (unhT s.data.toList).isSome
structure UX where
  i : Nat
  l : List UInt8
inductive UR (s : ByteArray) (y : UX) : Prop where
  | even (h0 : s.size % 2 = 0) (h1 : y.l.length = s.size / 2) (h2 : y.i ≤ s.size) (h3 : y.i % 2 = 0) (h4 : (unhT (s.data.toList.drop y.i)).map (y.l.take (y.i / 2) ++ ·) = unhT s.data.toList) (h5 : y.l.drop (y.i / 2) = List.replicate (s.size / 2 - y.i / 2) 0) : UR s y
  | odd (a : UInt8) (h0 : s.size % 2 = 0) (h1 : y.l.length = s.size / 2) (h2 : y.i ≤ s.size) (h3 : y.i % 2 = 1) (h6 : s.data.toList.drop (y.i - 1) = a :: s.data.toList.drop y.i) (h7 : 0 ≤ hv a) (h8 : y.l[y.i / 2]? = some (UInt8.ofNat (hv a).toNat))
    (h4 : (unhT (s.data.toList.drop (y.i - 1))).map (y.l.take (y.i / 2) ++ ·) = unhT s.data.toList) (h5 : y.l.drop (y.i / 2 + 1) = List.replicate (s.size / 2 - y.i / 2 - 1) 0) : UR s y
def uhInv (s : ByteArray) : LInv := { σ := UX, st := fun x => ⟨((((List.replicate 42 .u).set 0 (.str s)).set 4 (.s 0 1 (.l 0) (.e (s.size / 2)))).set 16 (.i .i64 s.size)).set 17 (.i .i64 x.i), [.row (some 5) (.bytes x.l)], []⟩, m := fun x => s.size - x.i, rel := fun _ y => UR s y }
def howUh (s : ByteArray) : Nat → How := fun _ => .inv (uhInv s)
def lUh : List (FuncId × FSpec) := [(30, ibSpec)]
theorem lUh_ok : AllOk Tryd.prog lUh := ⟨⟨by decide, fok ib30_ok Tryd.func30 rfl (by kernel_rfl)⟩, trivial⟩
noncomputable def CUh : Ctx := { P := Tryd.prog, sp := spOf lUh, nm := false }

theorem uh_vc  (s : ByteArray) : (awp CUh (howUh s) (bodyOf Tryd.f14) ⟨[.str s] ++ List.replicate 41 .u, [], []⟩ (finA CUh.P Tryd.f14 0 (.t [.str (unN s), .c (unB s)]) [])) =
    (True ∧ True ∧ True ∧ True ∧ True ∧ True ∧ ((Int.tmod (↑(ByteArray.size s) : Int) (2 : Int) != (0 : Int)) = Bool.true → True ∧ True ∧ ((ByteArray.mk #[] = Go.Proofs.YtkihnmpjpbfiaaaDoor.Mine.unN s ∧ Bool.false = Go.Proofs.YtkihnmpjpbfiaaaDoor.Mine.unB s ∧ True) ∧ True) ∧ True ∧ True) ∧ ((Int.tmod (↑(ByteArray.size s) : Int) (2 : Int) != (0 : Int)) = Bool.false → True ∧ True ∧ True ∧ ((0 : Int) ≤ Go.IntKind.wrap Go.IntKind.i64 (Int.tdiv (↑(ByteArray.size s) : Int) (2 : Int)) ∧ Go.IntKind.wrap Go.IntKind.i64 (Int.tdiv (↑(ByteArray.size s) : Int) (2 : Int)) ≤ Go.IntKind.wrap Go.IntKind.i64 (Int.tdiv (↑(ByteArray.size s) : Int) (2 : Int)) ∧ Go.IntKind.wrap Go.IntKind.i64 (Int.tdiv (↑(ByteArray.size s) : Int) (2 : Int)) < (4611686018427387904 : Int) ∧ (1 : Int) * Go.IntKind.wrap Go.IntKind.i64 (Int.tdiv (↑(ByteArray.size s) : Int) (2 : Int)) ≤ (140737488355328 : Int)) ∧ True ∧ True ∧ True ∧ True ∧ ∃ (x0 : Go.Proofs.YtkihnmpjpbfiaaaDoor.Mine.UX), Go.Proofs.YtkihnmpjpbfiaaaDoor.Mine.UR s x0 ∧ ((s = s ∧ True ∧ True ∧ True ∧ ((0 : Nat) = (0 : Nat) ∧ Int.toNat (Go.IntKind.wrap Go.IntKind.i64 (Int.tdiv (↑(ByteArray.size s) : Int) (2 : Int))) = ByteArray.size s / (2 : Nat)) ∧ True ∧ True ∧ True ∧ True ∧ True ∧ True ∧ True ∧ True ∧ True ∧ True ∧ True ∧ (↑(ByteArray.size s) : Int) = (↑(ByteArray.size s) : Int) ∧ (0 : Int) = (↑(Go.Proofs.YtkihnmpjpbfiaaaDoor.Mine.UX.i x0) : Int) ∧ True ∧ True ∧ True ∧ True ∧ True ∧ True ∧ True ∧ True ∧ True ∧ True ∧ True ∧ True ∧ True ∧ True ∧ True ∧ True ∧ True ∧ True ∧ True ∧ True ∧ True ∧ True ∧ True ∧ True ∧ True) ∧ True ∧ Go.Proofs.YtkihnmpjpbfiaaaDoor.Ev.RC.bytes (List.replicate (Int.toNat (Go.IntKind.wrap Go.IntKind.i64 (Int.tdiv (↑(ByteArray.size s) : Int) (2 : Int)))) (0 : UInt8)) = Go.Proofs.YtkihnmpjpbfiaaaDoor.Ev.RC.bytes (Go.Proofs.YtkihnmpjpbfiaaaDoor.Mine.UX.l x0) ∧ True) ∧ ∀ (y : Go.Proofs.YtkihnmpjpbfiaaaDoor.Mine.UX), Go.Proofs.YtkihnmpjpbfiaaaDoor.Mine.UR s y → True ∧ (Decidable.decide ((↑(Go.Proofs.YtkihnmpjpbfiaaaDoor.Mine.UX.i y) : Int) < (↑(ByteArray.size s) : Int)) = Bool.true → True ∧ True ∧ True ∧ True ∧ ((0 : Int) ≤ (↑(Go.Proofs.YtkihnmpjpbfiaaaDoor.Mine.UX.i y) : Int) ∧ (↑(Go.Proofs.YtkihnmpjpbfiaaaDoor.Mine.UX.i y) : Int) < (↑(ByteArray.size s) : Int)) ∧ True ∧ True ∧ True ∧ True ∧ (Decidable.decide (Go.Proofs.YtkihnmpjpbfiaaaDoor.Mine.ixB (Prod.fst (ByteArray.mk #[(48 : UInt8), (49 : UInt8), (50 : UInt8), (51 : UInt8), (52 : UInt8), (53 : UInt8), (54 : UInt8), (55 : UInt8), (56 : UInt8), (57 : UInt8), (97 : UInt8), (98 : UInt8), (99 : UInt8), (100 : UInt8), (101 : UInt8), (102 : UInt8)], (↑(UInt8.toNat (match (Array.toList (ByteArray.data s))[Int.toNat (↑(Go.Proofs.YtkihnmpjpbfiaaaDoor.Mine.UX.i y) : Int)]? with | Option.some x => x | Option.none => (0 : UInt8))) : Int))) (Prod.snd (ByteArray.mk #[(48 : UInt8), (49 : UInt8), (50 : UInt8), (51 : UInt8), (52 : UInt8), (53 : UInt8), (54 : UInt8), (55 : UInt8), (56 : UInt8), (57 : UInt8), (97 : UInt8), (98 : UInt8), (99 : UInt8), (100 : UInt8), (101 : UInt8), (102 : UInt8)], (↑(UInt8.toNat (match (Array.toList (ByteArray.data s))[Int.toNat (↑(Go.Proofs.YtkihnmpjpbfiaaaDoor.Mine.UX.i y) : Int)]? with | Option.some x => x | Option.none => (0 : UInt8))) : Int))) < (0 : Int)) = Bool.true → True ∧ True ∧ ((ByteArray.mk #[] = Go.Proofs.YtkihnmpjpbfiaaaDoor.Mine.unN s ∧ Bool.false = Go.Proofs.YtkihnmpjpbfiaaaDoor.Mine.unB s ∧ True) ∧ True) ∧ True ∧ True) ∧ (Decidable.decide (Go.Proofs.YtkihnmpjpbfiaaaDoor.Mine.ixB (Prod.fst (ByteArray.mk #[(48 : UInt8), (49 : UInt8), (50 : UInt8), (51 : UInt8), (52 : UInt8), (53 : UInt8), (54 : UInt8), (55 : UInt8), (56 : UInt8), (57 : UInt8), (97 : UInt8), (98 : UInt8), (99 : UInt8), (100 : UInt8), (101 : UInt8), (102 : UInt8)], (↑(UInt8.toNat (match (Array.toList (ByteArray.data s))[Int.toNat (↑(Go.Proofs.YtkihnmpjpbfiaaaDoor.Mine.UX.i y) : Int)]? with | Option.some x => x | Option.none => (0 : UInt8))) : Int))) (Prod.snd (ByteArray.mk #[(48 : UInt8), (49 : UInt8), (50 : UInt8), (51 : UInt8), (52 : UInt8), (53 : UInt8), (54 : UInt8), (55 : UInt8), (56 : UInt8), (57 : UInt8), (97 : UInt8), (98 : UInt8), (99 : UInt8), (100 : UInt8), (101 : UInt8), (102 : UInt8)], (↑(UInt8.toNat (match (Array.toList (ByteArray.data s))[Int.toNat (↑(Go.Proofs.YtkihnmpjpbfiaaaDoor.Mine.UX.i y) : Int)]? with | Option.some x => x | Option.none => (0 : UInt8))) : Int))) < (0 : Int)) = Bool.false → True ∧ True ∧ True ∧ True ∧ True ∧ True ∧ ((0 : Int) ≤ Go.IntKind.wrap Go.IntKind.i64 (Int.tdiv (↑(Go.Proofs.YtkihnmpjpbfiaaaDoor.Mine.UX.i y) : Int) (2 : Int)) ∧ Go.IntKind.wrap Go.IntKind.i64 (Int.tdiv (↑(Go.Proofs.YtkihnmpjpbfiaaaDoor.Mine.UX.i y) : Int) (2 : Int)) < (↑(ByteArray.size s / (2 : Nat)) : Int)) ∧ (0 : Nat) + Int.toNat (Go.IntKind.wrap Go.IntKind.i64 (Int.tdiv (↑(Go.Proofs.YtkihnmpjpbfiaaaDoor.Mine.UX.i y) : Int) (2 : Int))) < List.length (Go.Proofs.YtkihnmpjpbfiaaaDoor.Mine.UX.l y) ∧ True ∧ True ∧ True ∧ True ∧ ((0 : Int) ≤ Go.IntKind.wrap Go.IntKind.i64 (Int.tdiv (↑(Go.Proofs.YtkihnmpjpbfiaaaDoor.Mine.UX.i y) : Int) (2 : Int)) ∧ Go.IntKind.wrap Go.IntKind.i64 (Int.tdiv (↑(Go.Proofs.YtkihnmpjpbfiaaaDoor.Mine.UX.i y) : Int) (2 : Int)) < (↑(ByteArray.size s / (2 : Nat)) : Int)) ∧ ((0 : Nat) + Int.toNat (Go.IntKind.wrap Go.IntKind.i64 (Int.tdiv (↑(Go.Proofs.YtkihnmpjpbfiaaaDoor.Mine.UX.i y) : Int) (2 : Int))) < List.length (Go.Proofs.YtkihnmpjpbfiaaaDoor.Mine.UX.l y) ∧ (0 : Int) ≤ Go.IntKind.wrap Go.IntKind.u8 (↑(BitVec.toNat (BitVec.ofInt (8 : Nat) (Go.IntKind.wrap Go.IntKind.u8 ((↑(UInt8.toNat (match (Go.Proofs.YtkihnmpjpbfiaaaDoor.Mine.UX.l y)[(0 : Nat) + Int.toNat (Go.IntKind.wrap Go.IntKind.i64 (Int.tdiv (↑(Go.Proofs.YtkihnmpjpbfiaaaDoor.Mine.UX.i y) : Int) (2 : Int)))]? with | Option.some x => x | Option.none => (0 : UInt8))) : Int) * (16 : Int))) ||| BitVec.ofInt (8 : Nat) (Go.IntKind.wrap Go.IntKind.u8 (Go.Proofs.YtkihnmpjpbfiaaaDoor.Mine.ixB (Prod.fst (ByteArray.mk #[(48 : UInt8), (49 : UInt8), (50 : UInt8), (51 : UInt8), (52 : UInt8), (53 : UInt8), (54 : UInt8), (55 : UInt8), (56 : UInt8), (57 : UInt8), (97 : UInt8), (98 : UInt8), (99 : UInt8), (100 : UInt8), (101 : UInt8), (102 : UInt8)], (↑(UInt8.toNat (match (Array.toList (ByteArray.data s))[Int.toNat (↑(Go.Proofs.YtkihnmpjpbfiaaaDoor.Mine.UX.i y) : Int)]? with | Option.some x => x | Option.none => (0 : UInt8))) : Int))) (Prod.snd (ByteArray.mk #[(48 : UInt8), (49 : UInt8), (50 : UInt8), (51 : UInt8), (52 : UInt8), (53 : UInt8), (54 : UInt8), (55 : UInt8), (56 : UInt8), (57 : UInt8), (97 : UInt8), (98 : UInt8), (99 : UInt8), (100 : UInt8), (101 : UInt8), (102 : UInt8)], (↑(UInt8.toNat (match (Array.toList (ByteArray.data s))[Int.toNat (↑(Go.Proofs.YtkihnmpjpbfiaaaDoor.Mine.UX.i y) : Int)]? with | Option.some x => x | Option.none => (0 : UInt8))) : Int))))))) : Int) ∧ Go.IntKind.wrap Go.IntKind.u8 (↑(BitVec.toNat (BitVec.ofInt (8 : Nat) (Go.IntKind.wrap Go.IntKind.u8 ((↑(UInt8.toNat (match (Go.Proofs.YtkihnmpjpbfiaaaDoor.Mine.UX.l y)[(0 : Nat) + Int.toNat (Go.IntKind.wrap Go.IntKind.i64 (Int.tdiv (↑(Go.Proofs.YtkihnmpjpbfiaaaDoor.Mine.UX.i y) : Int) (2 : Int)))]? with | Option.some x => x | Option.none => (0 : UInt8))) : Int) * (16 : Int))) ||| BitVec.ofInt (8 : Nat) (Go.IntKind.wrap Go.IntKind.u8 (Go.Proofs.YtkihnmpjpbfiaaaDoor.Mine.ixB (Prod.fst (ByteArray.mk #[(48 : UInt8), (49 : UInt8), (50 : UInt8), (51 : UInt8), (52 : UInt8), (53 : UInt8), (54 : UInt8), (55 : UInt8), (56 : UInt8), (57 : UInt8), (97 : UInt8), (98 : UInt8), (99 : UInt8), (100 : UInt8), (101 : UInt8), (102 : UInt8)], (↑(UInt8.toNat (match (Array.toList (ByteArray.data s))[Int.toNat (↑(Go.Proofs.YtkihnmpjpbfiaaaDoor.Mine.UX.i y) : Int)]? with | Option.some x => x | Option.none => (0 : UInt8))) : Int))) (Prod.snd (ByteArray.mk #[(48 : UInt8), (49 : UInt8), (50 : UInt8), (51 : UInt8), (52 : UInt8), (53 : UInt8), (54 : UInt8), (55 : UInt8), (56 : UInt8), (57 : UInt8), (97 : UInt8), (98 : UInt8), (99 : UInt8), (100 : UInt8), (101 : UInt8), (102 : UInt8)], (↑(UInt8.toNat (match (Array.toList (ByteArray.data s))[Int.toNat (↑(Go.Proofs.YtkihnmpjpbfiaaaDoor.Mine.UX.i y) : Int)]? with | Option.some x => x | Option.none => (0 : UInt8))) : Int))))))) : Int) < (256 : Int)) ∧ True ∧ True ∧ ∃ (y' : Go.Proofs.YtkihnmpjpbfiaaaDoor.Mine.UX), ByteArray.size s - Go.Proofs.YtkihnmpjpbfiaaaDoor.Mine.UX.i y' < ByteArray.size s - Go.Proofs.YtkihnmpjpbfiaaaDoor.Mine.UX.i y ∧ Go.Proofs.YtkihnmpjpbfiaaaDoor.Mine.UR s y' ∧ (s = s ∧ True ∧ True ∧ True ∧ ((0 : Nat) = (0 : Nat) ∧ ByteArray.size s / (2 : Nat) = ByteArray.size s / (2 : Nat)) ∧ True ∧ True ∧ True ∧ True ∧ True ∧ True ∧ True ∧ True ∧ True ∧ True ∧ True ∧ (↑(ByteArray.size s) : Int) = (↑(ByteArray.size s) : Int) ∧ Go.IntKind.wrap Go.IntKind.i64 ((↑(Go.Proofs.YtkihnmpjpbfiaaaDoor.Mine.UX.i y) : Int) + (1 : Int)) = (↑(Go.Proofs.YtkihnmpjpbfiaaaDoor.Mine.UX.i y') : Int) ∧ True ∧ True ∧ True ∧ True ∧ True ∧ True ∧ True ∧ True ∧ True ∧ True ∧ True ∧ True ∧ True ∧ True ∧ True ∧ True ∧ True ∧ True ∧ True ∧ True ∧ True ∧ True ∧ True ∧ True ∧ True) ∧ True ∧ Go.Proofs.YtkihnmpjpbfiaaaDoor.Ev.RC.bytes (List.set (Go.Proofs.YtkihnmpjpbfiaaaDoor.Mine.UX.l y) ((0 : Nat) + Int.toNat (Go.IntKind.wrap Go.IntKind.i64 (Int.tdiv (↑(Go.Proofs.YtkihnmpjpbfiaaaDoor.Mine.UX.i y) : Int) (2 : Int)))) (UInt8.ofNat (Int.toNat (Go.IntKind.wrap Go.IntKind.u8 (↑(BitVec.toNat (BitVec.ofInt (8 : Nat) (Go.IntKind.wrap Go.IntKind.u8 ((↑(UInt8.toNat (match (Go.Proofs.YtkihnmpjpbfiaaaDoor.Mine.UX.l y)[(0 : Nat) + Int.toNat (Go.IntKind.wrap Go.IntKind.i64 (Int.tdiv (↑(Go.Proofs.YtkihnmpjpbfiaaaDoor.Mine.UX.i y) : Int) (2 : Int)))]? with | Option.some x => x | Option.none => (0 : UInt8))) : Int) * (16 : Int))) ||| BitVec.ofInt (8 : Nat) (Go.IntKind.wrap Go.IntKind.u8 (Go.Proofs.YtkihnmpjpbfiaaaDoor.Mine.ixB (Prod.fst (ByteArray.mk #[(48 : UInt8), (49 : UInt8), (50 : UInt8), (51 : UInt8), (52 : UInt8), (53 : UInt8), (54 : UInt8), (55 : UInt8), (56 : UInt8), (57 : UInt8), (97 : UInt8), (98 : UInt8), (99 : UInt8), (100 : UInt8), (101 : UInt8), (102 : UInt8)], (↑(UInt8.toNat (match (Array.toList (ByteArray.data s))[Int.toNat (↑(Go.Proofs.YtkihnmpjpbfiaaaDoor.Mine.UX.i y) : Int)]? with | Option.some x => x | Option.none => (0 : UInt8))) : Int))) (Prod.snd (ByteArray.mk #[(48 : UInt8), (49 : UInt8), (50 : UInt8), (51 : UInt8), (52 : UInt8), (53 : UInt8), (54 : UInt8), (55 : UInt8), (56 : UInt8), (57 : UInt8), (97 : UInt8), (98 : UInt8), (99 : UInt8), (100 : UInt8), (101 : UInt8), (102 : UInt8)], (↑(UInt8.toNat (match (Array.toList (ByteArray.data s))[Int.toNat (↑(Go.Proofs.YtkihnmpjpbfiaaaDoor.Mine.UX.i y) : Int)]? with | Option.some x => x | Option.none => (0 : UInt8))) : Int))))))) : Int))))) = Go.Proofs.YtkihnmpjpbfiaaaDoor.Ev.RC.bytes (Go.Proofs.YtkihnmpjpbfiaaaDoor.Mine.UX.l y') ∧ True)) ∧ (Decidable.decide ((↑(Go.Proofs.YtkihnmpjpbfiaaaDoor.Mine.UX.i y) : Int) < (↑(ByteArray.size s) : Int)) = Bool.false → True ∧ (0 : Nat) + ByteArray.size s / (2 : Nat) ≤ List.length (Go.Proofs.YtkihnmpjpbfiaaaDoor.Mine.UX.l y) ∧ True ∧ True ∧ ((ByteArray.mk (List.toArray (List.take (ByteArray.size s / (2 : Nat)) (List.drop (0 : Nat) (Go.Proofs.YtkihnmpjpbfiaaaDoor.Mine.UX.l y)))) = Go.Proofs.YtkihnmpjpbfiaaaDoor.Mine.unN s ∧ Bool.true = Go.Proofs.YtkihnmpjpbfiaaaDoor.Mine.unB s ∧ True) ∧ True) ∧ True ∧ True))) := by kernel_rfl

theorem bvn8 {a : Nat} (h : a < 256) : (BitVec.ofInt 8 (a : Int)).toNat = a := by
  rw [BitVec.toNat_ofInt]; omega
theorem wrap8 {a : Nat} (h : a < 256) : IntKind.wrap .u8 (a : Int) = a := by simp [IntKind.wrap, IntKind.bits, IntKind.signed]; omega
theorem or16 {x d : Nat} (hx : x < 16) (hd : d < 16) : IntKind.wrap .u8 ((BitVec.ofInt 8 (IntKind.wrap .u8 ((x : Int) * 16)) ||| BitVec.ofInt 8 (IntKind.wrap .u8 (d : Int))).toNat : Int) = ((16 * x + d : Nat) : Int) := by
  have e : (x : Int) * 16 = ((2 ^ 4 * x : Nat) : Int) := by omega
  rw [e, wrap8 (a := 2 ^ 4 * x) (by omega), wrap8 (a := d) (by omega), BitVec.toNat_or, bvn8 (by omega), bvn8 (by omega), ← Nat.two_pow_add_eq_or_of_lt (by omega), wrap8 (by omega)]
theorem hv_lt (b : UInt8) : hv b < 16 := ib_lt _ b
theorem get_drop0 {l : List UInt8} {m k : Nat} {v : UInt8} (h : l.drop m = List.replicate (k + 1) v) : l[m]? = some v ∧ l.drop (m + 1) = List.replicate k v := by
  refine ⟨?_, ?_⟩
  · have := congrArg (fun l => l[0]?) h
    simpa [List.getElem?_drop] using this
  · have := congrArg List.tail h
    simpa [List.tail_drop] using this

theorem uh_walk (s : ByteArray) (hs : s.size ≤ 2 ^ 40) : awp CUh (howUh s) (bodyOf Tryd.f14) ⟨[.str s] ++ List.replicate 41 .u, [], []⟩ (finA CUh.P Tryd.f14 0 (.t [.str (unN s), .c (unB s)]) []) := by
  rw [uh_vc]
  simp only [true_and, and_true, decide_eq_true_eq, decide_eq_false_iff_not, beq_iff_eq, beq_eq_false_iff_ne, bne_iff_ne, bne_eq_false_iff_eq, List.drop_zero, List.take_length, Nat.zero_add]
  have e1 : ((s.size : Int)).tmod 2 = ((s.size % 2 : Nat) : Int) := by rw [Int.tmod_eq_emod_of_nonneg (by omega)]; omega
  have e2 : ((s.size : Int)).tdiv 2 = ((s.size / 2 : Nat) : Int) := by rw [Int.tdiv_eq_ediv_of_nonneg (by omega)]; omega
  rw [e1, e2, wrapN (by omega), Int.toNat_natCast]
  have none' : unhT s.data.toList = none → ByteArray.mk #[] = unN s ∧ false = unB s := fun h => by
    simp [unN, unB, h]
  refine ⟨fun h => none' ?_, fun h => ⟨⟨by omega, by omega, by omega, by omega⟩, ⟨0, List.replicate (s.size / 2) 0⟩, .even (by omega) (by simp) (Nat.zero_le _) rfl (by simp) (by simp), ⟨⟨rfl, rfl⟩, rfl⟩, fun y hy => ?_⟩⟩
  · have odd : ∀ l : List UInt8, l.length % 2 = 1 → unhT l = none := by
      intro l
      induction l using unhT.induct with
      | case1 => simp
      | case2 => simp [unhT]
      | case3 a b r h => simp [unhT, h]
      | case4 a b r h v hv ih => intro hl; rw [ih (by simp at hl; omega)] at hv; cases hv
      | case5 a b r h hv ih => intro _; simp [unhT, hv]
    exact odd _ (by rw [size_eq]; omega)
  · have hlen : y.l.length = s.size / 2 := by cases hy <;> assumption
    have hbd : y.i ≤ s.size := by cases hy <;> assumption
    have e3 : ((y.i : Int)).tdiv 2 = ((y.i / 2 : Nat) : Int) := by rw [Int.tdiv_eq_ediv_of_nonneg (by omega)]; omega
    rw [e3, wrapN (by omega), Int.toNat_natCast, Int.toNat_natCast]
    refine ⟨fun hi => ?_, fun hi => ?_⟩
    · obtain ⟨b, hb0, hbd⟩ := byte_at (s := s) (i := y.i) (by omega)
      rw [hb0]
      simp only
      have hx : ixB ⟨#[48, 49, 50, 51, 52, 53, 54, 55, 56, 57, 97, 98, 99, 100, 101, 102]⟩ (b.toNat : Int) = hv b := by
        unfold ixB hv
        show Lib.indexByte Hx.tb.data.toList _ = _
        congr 1
        simp
      rw [hx]
      have hlt := hv_lt b
      have w1 : IntKind.wrap .i64 ((y.i : Int) + 1) = ((y.i + 1 : Nat) : Int) := by rw [wrap64 (by omega) (by omega)]; omega
      rw [w1]
      have main : ∀ x : UInt8, y.l[y.i / 2]? = some x → x.toNat < 16 → 0 ≤ hv b → (UR s ⟨y.i + 1, y.l.set (y.i / 2) (UInt8.ofNat (16 * x.toNat + (hv b).toNat))⟩) →
          ((0 ≤ ((y.i / 2 : Nat) : Int) ∧ ((y.i / 2 : Nat) : Int) < ((s.size / 2 : Nat) : Int)) ∧ y.i / 2 < y.l.length ∧ (0 ≤ ((y.i / 2 : Nat) : Int) ∧ ((y.i / 2 : Nat) : Int) < ((s.size / 2 : Nat) : Int)) ∧
          (y.i / 2 < y.l.length ∧ 0 ≤ IntKind.wrap .u8 ((BitVec.ofInt 8 (IntKind.wrap .u8 ((x.toNat : Int) * 16)) ||| BitVec.ofInt 8 (IntKind.wrap .u8 (hv b))).toNat : Int) ∧ IntKind.wrap .u8 ((BitVec.ofInt 8 (IntKind.wrap .u8 ((x.toNat : Int) * 16)) ||| BitVec.ofInt 8 (IntKind.wrap .u8 (hv b))).toNat : Int) < 256) ∧
          ∃ y' : UX, s.size - y'.i < s.size - y.i ∧ UR s y' ∧ ((y.i + 1 : Nat) : Int) = ((y'.i : Nat) : Int) ∧ RC.bytes (y.l.set (y.i / 2) (UInt8.ofNat (IntKind.wrap .u8 ((BitVec.ofInt 8 (IntKind.wrap .u8 ((x.toNat : Int) * 16)) ||| BitVec.ofInt 8 (IntKind.wrap .u8 (hv b))).toNat : Int)).toNat)) = RC.bytes y'.l) := by
        intro x hx hx16 hb hur
        obtain ⟨d, hd⟩ : ∃ d : Nat, hv b = d := ⟨(hv b).toNat, by omega⟩
        have hw := or16 (x := x.toNat) (d := d) hx16 (by omega)
        have hlt2 : y.i / 2 < y.l.length := (List.getElem?_eq_some_iff.1 hx).1
        rw [hd, hw, Int.toNat_natCast]
        rw [hd, Int.toNat_natCast] at hur
        exact ⟨⟨by omega, by omega⟩, by omega, ⟨by omega, by omega⟩, ⟨by omega, by omega, by omega⟩, ⟨y.i + 1, _⟩, by simp only; omega, hur, rfl, rfl⟩
      cases hy with
      | even q0 q1 q2 q3 q4 q5 =>
        obtain ⟨k, hk⟩ : ∃ k, s.size / 2 - y.i / 2 = k + 1 := ⟨s.size / 2 - y.i / 2 - 1, by omega⟩
        rw [hk] at q5
        obtain ⟨g1, g2⟩ := get_drop0 q5
        obtain ⟨c, _, hcd⟩ := byte_at (s := s) (i := y.i + 1) (by omega)
        have em : (y.i + 1) / 2 = y.i / 2 := by omega
        refine ⟨⟨by omega, by omega⟩, fun h => none' ?_, fun h => ?_⟩
        · rw [← q4, hbd, hcd]
          simp [unhT, h]
        · rw [g1]
          simp only
          refine main 0 g1 (by decide) (by omega) (.odd b q0 (by simp [q1]) (by simp only; omega) (by simp only; omega) (by simpa using hbd) (by omega) ?_ ?_ ?_)
          · simp only [em]
            rw [List.getElem?_set_self (by omega)]; simp
          · simp only [em, Nat.add_sub_cancel]
            rw [List.take_set_of_le (Nat.le_refl _)]; exact q4
          · simp only [em]
            rw [List.drop_set_of_lt (by omega), g2]
            congr 1; omega
      | odd a q0 q1 q2 q3 q6 q7 q8 q4 q5 =>
        have em : (y.i + 1) / 2 = y.i / 2 + 1 := by omega
        have hla := hv_lt a
        have hu : (UInt8.ofNat (hv a).toNat).toNat = (hv a).toNat := by rw [UInt8.toNat_ofNat']; omega
        refine ⟨⟨by omega, by omega⟩, fun h => none' ?_, fun h => ?_⟩
        · rw [← q4, q6, hbd]
          simp [unhT, h]
        · rw [q8]
          simp only
          refine main _ q8 (by rw [hu]; omega) (by omega) (.even q0 (by simp [q1]) (by simp only; omega) (by simp only; omega) ?_ ?_)
          · simp only [em]
            rw [← q4, q6, hbd]
            have hn : ¬ (hv a < 0 ∨ hv b < 0) := by omega
            simp only [unhT, if_neg hn]
            have ht : List.take (y.i / 2 + 1) (y.l.set (y.i / 2) (UInt8.ofNat (16 * (UInt8.ofNat (hv a).toNat).toNat + (hv b).toNat))) = y.l.take (y.i / 2) ++ [UInt8.ofNat (16 * hv a + hv b).toNat] := by
              have e : 16 * (hv a).toNat + (hv b).toNat = (16 * hv a + hv b).toNat := by omega
              rw [List.take_add_one, List.take_set_of_le (Nat.le_refl _), List.getElem?_set_self (List.getElem?_eq_some_iff.1 q8).1, hu, e]
              rfl
            rw [ht]
            cases unhT (s.data.toList.drop (y.i + 1)) <;> simp
          · simp only [em]
            rw [List.drop_set_of_lt (by omega), q5]
            congr 1
    · cases hy with
      | even q0 q1 q2 q3 q4 q5 =>
        have hnil : s.data.toList.drop y.i = [] := by rw [List.drop_eq_nil_iff, size_eq]; omega
        have hi2 : y.i / 2 = s.size / 2 := by omega
        rw [hnil] at q4
        simp only [unhT, Option.map_some, List.append_nil] at q4
        rw [hi2, List.take_of_length_le (by omega)] at q4
        rw [List.take_of_length_le (by omega)]
        refine ⟨by omega, ?_, ?_⟩
        · simp [unN, ← q4]
        · simp [unB, ← q4]
      | odd a q0 q1 q2 q3 _ _ _ _ _ => omega
def unSpec : FSpec := plainSpec strRest (fun s => s.size ≤ 2 ^ 40) (fun s => .t [.str (unN s), .c (unB s)])
theorem uh_ok : SpecOk Tryd.prog 14 unSpec :=
  plain_ok (C := CUh) (fn := Tryd.f14) (c := bodyOf Tryd.f14) rfl Tryd.func14 (by rfl) (spOf_ok lUh_ok) mixed (fun _ => rfl) (how := howUh) (fun s hs => uh_walk s hs)

end Go.Proofs.YtkihnmpjpbfiaaaDoor.Mine
