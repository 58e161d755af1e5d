/- The contract of b64.Number. -/
import Derived.Test.YtkihnmpjpbfiaaaDoorB3
set_option linter.unusedVariables false
set_option linter.unusedSimpArgs false
namespace Go.Proofs.YtkihnmpjpbfiaaaDoor.Mine
open Go Go.Proofs.YtkihnmpjpbfiaaaDoor.Ev Go.Proofs
set_option maxRecDepth 100000

/-! ### Number -/
/-- The digits of a number that is not negative, put ahead of a text. -/
def digs : Nat → Int → List UInt8 → List UInt8
  | 0, _, acc => acc
  | k + 1, n, acc => if n / 10 = 0 then byteOf (48 + n % 10) :: acc else digs k (n / 10) (byteOf (48 + n % 10) :: acc)
def numT (n : Int) : ByteArray := if n < 0 then .empty else ⟨(digs 20 n []).toArray⟩
/-- A round's state: the number, the place, the digits' row. -/
structure NumI where
  m : Int
  k : Int
  xs : List Int
def numSt (x : NumI) : St := ⟨[.i .i64 x.m, .u, .u, .u, .p 0 0, .i .i64 x.k] ++ List.replicate 17 .u, [.cells none [.vec .u8 20 x.xs]], []⟩
inductive NumR (x y : NumI) : Prop where
  | mk (h0 : 0 ≤ y.m) (h1 : y.m < 2 ^ 63) (h2 : 1 ≤ y.k) (h3 : y.k ≤ 20) (h4 : y.m < 10 ^ y.k.toNat) (h5 : y.xs.length = 20) (h6 : allU8 (y.xs.drop y.k.toNat))
    (h7 : digs y.k.toNat y.m (toBytes (y.xs.drop y.k.toNat)) = digs 20 x.m [])
def numInv (n : Int) : LInv := { σ := NumI, st := numSt, m := fun x => x.k.toNat, rel := fun x y => x.m = n ∧ NumR x y }
def howNum (n : Int) : Nat → How := fun _ => .inv (numInv n)
inductive NumE (n : Int) : AV → AV → Prop where
  | mk (b : Bool) (s : ByteArray) (h : s = numT n) (h' : b = decide (0 ≤ n)) : NumE n (.str s) (.b b)

theorem num_vc  (n : Int) : (awp C0 (howNum n) (bodyOf Tryd.f18) ⟨[.i .i64 n] ++ List.replicate 22 .u, [], []⟩ (finA C0.P Tryd.f18 0 (.t [.str (numT n), .c (decide (0 ≤ n))]) [])) =
    (True ∧ True ∧ True ∧ True ∧ (Decidable.decide (n < (0 : Int)) = Bool.true → True ∧ True ∧ ((ByteArray.mk #[] = Go.Proofs.YtkihnmpjpbfiaaaDoor.Mine.numT n ∧ Bool.false = Decidable.decide ((0 : Int) ≤ n) ∧ True) ∧ True) ∧ True ∧ True) ∧ (Decidable.decide (n < (0 : Int)) = Bool.false → True ∧ True ∧ ∃ (x0 : Go.Proofs.YtkihnmpjpbfiaaaDoor.Mine.NumI), (Go.Proofs.YtkihnmpjpbfiaaaDoor.Mine.NumI.m x0 = n ∧ Go.Proofs.YtkihnmpjpbfiaaaDoor.Mine.NumR x0 x0) ∧ ((n = Go.Proofs.YtkihnmpjpbfiaaaDoor.Mine.NumI.m x0 ∧ True ∧ True ∧ True ∧ True ∧ (20 : Int) = Go.Proofs.YtkihnmpjpbfiaaaDoor.Mine.NumI.k x0 ∧ True ∧ True ∧ True ∧ True ∧ True ∧ True ∧ True ∧ True ∧ True ∧ True ∧ True ∧ True ∧ True ∧ True ∧ True ∧ True ∧ True ∧ True) ∧ True ∧ ([(0 : Int), (0 : Int), (0 : Int), (0 : Int), (0 : Int), (0 : Int), (0 : Int), (0 : Int), (0 : Int), (0 : Int), (0 : Int), (0 : Int), (0 : Int), (0 : Int), (0 : Int), (0 : Int), (0 : Int), (0 : Int), (0 : Int), (0 : Int)] = Go.Proofs.YtkihnmpjpbfiaaaDoor.Mine.NumI.xs x0 ∧ True) ∧ True) ∧ ∀ (y : Go.Proofs.YtkihnmpjpbfiaaaDoor.Mine.NumI), Go.Proofs.YtkihnmpjpbfiaaaDoor.Mine.NumI.m x0 = n ∧ Go.Proofs.YtkihnmpjpbfiaaaDoor.Mine.NumR x0 y → True ∧ True ∧ True ∧ True ∧ True ∧ True ∧ True ∧ True ∧ ((0 : Int) ≤ Go.IntKind.wrap Go.IntKind.i64 (Go.Proofs.YtkihnmpjpbfiaaaDoor.Mine.NumI.k y - (1 : Int)) ∧ Go.IntKind.wrap Go.IntKind.i64 (Go.Proofs.YtkihnmpjpbfiaaaDoor.Mine.NumI.k y - (1 : Int)) < (20 : Int)) ∧ Int.toNat (Go.IntKind.wrap Go.IntKind.i64 (Go.Proofs.YtkihnmpjpbfiaaaDoor.Mine.NumI.k y - (1 : Int))) < (20 : Nat) ∧ True ∧ True ∧ True ∧ True ∧ True ∧ ((Go.IntKind.wrap Go.IntKind.i64 (Int.tdiv (Go.Proofs.YtkihnmpjpbfiaaaDoor.Mine.NumI.m y) (10 : Int)) == (0 : Int)) = Bool.true → True ∧ (Int.NonNeg (Go.IntKind.wrap Go.IntKind.i64 (Go.Proofs.YtkihnmpjpbfiaaaDoor.Mine.NumI.k y - (1 : Int)) - (0 : Int)) ∧ True ∧ Int.toNat (Go.IntKind.wrap Go.IntKind.i64 (Go.Proofs.YtkihnmpjpbfiaaaDoor.Mine.NumI.k y - (1 : Int))) ≤ (20 : Nat) ∧ (20 : Nat) ≤ (20 : Nat)) ∧ (Int.toNat (Go.IntKind.wrap Go.IntKind.i64 (Go.Proofs.YtkihnmpjpbfiaaaDoor.Mine.NumI.k y - (1 : Int))) + ((20 : Nat) - Int.toNat (Go.IntKind.wrap Go.IntKind.i64 (Go.Proofs.YtkihnmpjpbfiaaaDoor.Mine.NumI.k y - (1 : Int)))) ≤ (20 : Nat) ∧ Go.Proofs.YtkihnmpjpbfiaaaDoor.Ev.allU8 (List.take ((20 : Nat) - Int.toNat (Go.IntKind.wrap Go.IntKind.i64 (Go.Proofs.YtkihnmpjpbfiaaaDoor.Mine.NumI.k y - (1 : Int)))) (List.drop (Int.toNat (Go.IntKind.wrap Go.IntKind.i64 (Go.Proofs.YtkihnmpjpbfiaaaDoor.Mine.NumI.k y - (1 : Int)))) (List.set (Go.Proofs.YtkihnmpjpbfiaaaDoor.Mine.NumI.xs y) (Int.toNat (Go.IntKind.wrap Go.IntKind.i64 (Go.Proofs.YtkihnmpjpbfiaaaDoor.Mine.NumI.k y - (1 : Int)))) (Go.IntKind.wrap Go.IntKind.u8 (Go.IntKind.wrap Go.IntKind.i64 ((48 : Int) + Int.tmod (Go.Proofs.YtkihnmpjpbfiaaaDoor.Mine.NumI.m y) (10 : Int)))))))) ∧ True ∧ True ∧ ((ByteArray.mk (List.toArray (Go.Proofs.YtkihnmpjpbfiaaaDoor.Ev.toBytes (List.take ((20 : Nat) - Int.toNat (Go.IntKind.wrap Go.IntKind.i64 (Go.Proofs.YtkihnmpjpbfiaaaDoor.Mine.NumI.k y - (1 : Int)))) (List.drop (Int.toNat (Go.IntKind.wrap Go.IntKind.i64 (Go.Proofs.YtkihnmpjpbfiaaaDoor.Mine.NumI.k y - (1 : Int)))) (List.set (Go.Proofs.YtkihnmpjpbfiaaaDoor.Mine.NumI.xs y) (Int.toNat (Go.IntKind.wrap Go.IntKind.i64 (Go.Proofs.YtkihnmpjpbfiaaaDoor.Mine.NumI.k y - (1 : Int)))) (Go.IntKind.wrap Go.IntKind.u8 (Go.IntKind.wrap Go.IntKind.i64 ((48 : Int) + Int.tmod (Go.Proofs.YtkihnmpjpbfiaaaDoor.Mine.NumI.m y) (10 : Int))))))))) = Go.Proofs.YtkihnmpjpbfiaaaDoor.Mine.numT n ∧ Bool.true = Decidable.decide ((0 : Int) ≤ n) ∧ True) ∧ True) ∧ True ∧ True) ∧ ((Go.IntKind.wrap Go.IntKind.i64 (Int.tdiv (Go.Proofs.YtkihnmpjpbfiaaaDoor.Mine.NumI.m y) (10 : Int)) == (0 : Int)) = Bool.false → ∃ (y' : Go.Proofs.YtkihnmpjpbfiaaaDoor.Mine.NumI), Int.toNat (Go.Proofs.YtkihnmpjpbfiaaaDoor.Mine.NumI.k y') < Int.toNat (Go.Proofs.YtkihnmpjpbfiaaaDoor.Mine.NumI.k y) ∧ (Go.Proofs.YtkihnmpjpbfiaaaDoor.Mine.NumI.m x0 = n ∧ Go.Proofs.YtkihnmpjpbfiaaaDoor.Mine.NumR x0 y') ∧ (Go.IntKind.wrap Go.IntKind.i64 (Int.tdiv (Go.Proofs.YtkihnmpjpbfiaaaDoor.Mine.NumI.m y) (10 : Int)) = Go.Proofs.YtkihnmpjpbfiaaaDoor.Mine.NumI.m y' ∧ True ∧ True ∧ True ∧ True ∧ Go.IntKind.wrap Go.IntKind.i64 (Go.Proofs.YtkihnmpjpbfiaaaDoor.Mine.NumI.k y - (1 : Int)) = Go.Proofs.YtkihnmpjpbfiaaaDoor.Mine.NumI.k y' ∧ True ∧ True ∧ True ∧ True ∧ True ∧ True ∧ True ∧ True ∧ True ∧ True ∧ True ∧ True ∧ True ∧ True ∧ True ∧ True ∧ True ∧ True) ∧ True ∧ (List.set (Go.Proofs.YtkihnmpjpbfiaaaDoor.Mine.NumI.xs y) (Int.toNat (Go.IntKind.wrap Go.IntKind.i64 (Go.Proofs.YtkihnmpjpbfiaaaDoor.Mine.NumI.k y - (1 : Int)))) (Go.IntKind.wrap Go.IntKind.u8 (Go.IntKind.wrap Go.IntKind.i64 ((48 : Int) + Int.tmod (Go.Proofs.YtkihnmpjpbfiaaaDoor.Mine.NumI.m y) (10 : Int)))) = Go.Proofs.YtkihnmpjpbfiaaaDoor.Mine.NumI.xs y' ∧ True) ∧ True))) := by kernel_rfl

theorem wq {n : Int} (h0 : 0 ≤ n) (h1 : n < 2 ^ 63) : IntKind.wrap .i64 (Int.tdiv n 10) = n / 10 := by
  rw [Int.tdiv_eq_ediv_of_nonneg h0]
  simp [IntKind.wrap, IntKind.bits, IntKind.signed]; omega
theorem wd {n : Int} (h0 : 0 ≤ n) : IntKind.wrap .u8 (IntKind.wrap .i64 (48 + Int.tmod n 10)) = 48 + n % 10 := by
  rw [Int.tmod_eq_emod_of_nonneg h0]
  simp [IntKind.wrap, IntKind.bits, IntKind.signed]; omega
theorem wk {k : Int} (h0 : 1 ≤ k) (h1 : k ≤ 20) : IntKind.wrap .i64 (k - 1) = k - 1 := by
  simp [IntKind.wrap, IntKind.bits, IntKind.signed]; omega

theorem drop_set {xs : List Int} {j : Nat} {v : Int} (h : j < xs.length) : (xs.set j v).drop j = v :: xs.drop (j + 1) := by
  rw [List.drop_eq_getElem_cons (by simpa using h)]
  simp [List.drop_set_of_lt]

theorem num_walk (n : Int) (hn : n < 2 ^ 63) : awp C0 (howNum n) (bodyOf Tryd.f18) ⟨[.i .i64 n] ++ List.replicate 22 .u, [], []⟩ (finA C0.P Tryd.f18 0 (.t [.str (numT n), .c (decide (0 ≤ n))]) []) := by
  rw [num_vc]
  simp only [true_and, and_true, decide_eq_true_eq, decide_eq_false_iff_not, beq_iff_eq, beq_eq_false_iff_ne]
  refine ⟨fun h => ⟨by simp [numT, h]; rfl, by simp; omega⟩, fun h => ⟨⟨n, 20, List.replicate 20 0⟩, ⟨rfl, ⟨Int.not_lt.1 h, hn, by show (1 : Int) ≤ 20; decide, by show (20 : Int) ≤ 20; decide, ?_, rfl, by simp [allU8], rfl⟩⟩, ⟨⟨rfl, rfl⟩, rfl⟩, ?_⟩⟩
  · show n < 10 ^ (20 : Nat)
    omega
  · rintro y ⟨_, h0, h1, h2, h3, h4, h5, h6, h7⟩
    obtain ⟨j, hj⟩ : ∃ j : Nat, y.k = j + 1 := ⟨(y.k - 1).toNat, by omega⟩
    have hkt : y.k.toNat = j + 1 := by omega
    rw [wk h2 h3, wq h0 h1, wd h0]
    have ej : (y.k - 1).toNat = j := by omega
    rw [ej]
    have hd := drop_set (xs := y.xs) (j := j) (v := 48 + y.m % 10) (by omega)
    have htk : List.take (20 - j) (List.drop j (y.xs.set j (48 + y.m % 10))) = (48 + y.m % 10) :: y.xs.drop (j + 1) := by
      rw [hd, List.take_of_length_le (by simp; omega)]
    rw [hkt] at h4 h6 h7
    simp only [AN.v_sub, AN.v_l, AN.v_e]
    rw [htk]
    refine ⟨⟨by omega, by omega⟩, by omega, fun hz => ?_, fun hz => ?_⟩
    · have hb : (48 : Int) + y.m % 10 < 256 := by omega
      have hb0 : (0 : Int) ≤ 48 + y.m % 10 := by omega
      refine ⟨⟨(show (0 : Int) ≤ y.k - 1 by omega), by omega, by omega⟩, ⟨by omega, ⟨hb0, hb⟩, h6⟩, ?_, by simp; omega⟩
      have h7' : digs 20 n [] = byteOf (48 + y.m % 10) :: toBytes (y.xs.drop (j + 1)) := by
        rw [← h7]; simp [digs, hz]
      simp only [numT, if_neg h, h7', toBytes, byteOf]
    · have hj1 : 1 ≤ j := by
        rcases Nat.eq_zero_or_pos j with h | h
        · subst h
          simp at h4
          exact absurd (show y.m / 10 = 0 by omega) hz
        · exact h
      have hpow : (10 : Int) ^ (j + 1) = 10 ^ j * 10 := Int.pow_succ 10 j
      refine ⟨⟨y.m / 10, y.k - 1, y.xs.set j (48 + y.m % 10)⟩, (show (y.k - 1).toNat < y.k.toNat by omega), ⟨trivial, ⟨?_, ?_, ?_, ?_, ?_, ?_, ?_, ?_⟩⟩, ⟨rfl, rfl⟩, rfl⟩
      · show 0 ≤ y.m / 10; omega
      · show y.m / 10 < 2 ^ 63; omega
      · show 1 ≤ y.k - 1; omega
      · show y.k - 1 ≤ 20; omega
      · show y.m / 10 < 10 ^ (y.k - 1).toNat
        rw [ej]; omega
      · show (y.xs.set j _).length = 20; simp [h5]
      · show allU8 ((y.xs.set j _).drop (y.k - 1).toNat)
        rw [ej, hd]; exact ⟨⟨by omega, by omega⟩, h6⟩
      · show digs (y.k - 1).toNat (y.m / 10) (toBytes ((y.xs.set j _).drop (y.k - 1).toNat)) = _
        rw [ej, hd, ← h7]
        simp [digs, hz, toBytes, byteOf]

def numVal (n : Int) : AV := .t [.str (numT n), .c (decide (0 ≤ n))]
def numSpec : FSpec := { foot := fun _ _ => [], run := fun av _ fid => match av with
  | [a] => match avInt? a with
    | some (.i64, n) => some (outR (n < 2 ^ 63) (numVal n) [] [] fid)
    | _ => none
  | _ => none }
theorem num_contr : Contr 0 numSpec (fun n : Int => [.i .i64 n]) (fun _ => []) (fun n => n < 2 ^ 63) numVal (fun _ => []) where
  run := fun av H fid r h => by
    simp only [numSpec] at h
    split at h
    · split at h
      · rename_i a n hn
        cases h
        exact ⟨n, [], n < 2 ^ 63, rfl, List.nodup_nil, rfl, fun hp => ⟨hp, argOk_int hn, trivial⟩, fun _ j hj => (by simp at hj)⟩
      · cases h
    · cases h
  fitA := fun x => ⟨rfl, rfl, fun j hj => (by omega)⟩
  fitR := fun x => ⟨Nat.zero_le _, rfl, fun j hj => (by simp at hj)⟩
theorem num_ok : SpecOk Tryd.prog 18 numSpec :=
  specOk_of_awp (C := C0) (fn := Tryd.f18) (c := bodyOf Tryd.f18) Tryd.func18 (by rfl) num_contr sp0_ok mixed (how := howNum) (fun n hn => num_walk n hn)

end Go.Proofs.YtkihnmpjpbfiaaaDoor.Mine
