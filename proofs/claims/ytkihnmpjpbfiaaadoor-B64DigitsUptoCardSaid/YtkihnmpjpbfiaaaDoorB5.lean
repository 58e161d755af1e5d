/- The contract of b64.TakeNumber. -/
import Derived.Test.YtkihnmpjpbfiaaaDoorB4
import Derived.Laws.RangeAny
import Derived.Laws.Strings
set_option linter.unusedVariables false
set_option linter.unusedSimpArgs false
namespace Go.Proofs.YtkihnmpjpbfiaaaDoor.Mine
open Go Go.Proofs.YtkihnmpjpbfiaaaDoor.Ev Go.Proofs
set_option maxRecDepth 100000

/-! ### TakeNumber -/
def takeT : List UInt8 → Int → Option Int
  | [], n => some n
  | b :: r, n => if b.toNat < 48 ∨ 57 < b.toNat then none else if n > (2 ^ 62 - ((b.toNat : Int) - 48)) / 10 then none else takeT r (n * 10 + ((b.toNat : Int) - 48))
def tnT (l : List UInt8) : Option Int := match l with
  | [] => none
  | [b] => takeT [b] 0
  | b :: c :: r => if b.toNat = 48 then none else takeT (b :: c :: r) 0
def tnN (s : ByteArray) : Int := (tnT s.data.toList).getD 0
def tnB (s : ByteArray) : Bool := (tnT s.data.toList).isSome
structure TnI where
  n : Int
  pos : Nat
def tnSt (s : ByteArray) (x : TnI) : St := ⟨[.str s, .u, .u, .u, .i .i64 x.n] ++ List.replicate 16 .u ++ [.p 0 0] ++ List.replicate 24 .u, [.it s x.pos], []⟩
inductive TnR (s : ByteArray) (y : TnI) : Prop where
  | mk (h0 : 0 ≤ y.n) (h1 : y.n ≤ 2 ^ 62) (h2 : y.pos ≤ s.size) (h3 : takeT (s.data.toList.drop y.pos) y.n = tnT s.data.toList)
def tnInv (s : ByteArray) : LInv := { σ := TnI, st := tnSt s, m := fun x => s.size - x.pos, rel := fun _ y => TnR s y }
def howTn (s : ByteArray) : Nat → How := fun _ => .inv (tnInv s)
def tnVal (s : ByteArray) : AV := .t [.i .i64 (tnN s), .c (tnB s)]

theorem tn_vc  (s : ByteArray) : (awp C0 (howTn s) (bodyOf Tryd.f20) ⟨[.str s] ++ List.replicate 45 .u, [], []⟩ (finA C0.P Tryd.f20 0 (tnVal s) [])) =
    (True ∧ True ∧ True ∧ True ∧ True ∧ ((ByteArray.toList s == []) = Bool.false → True ∧ True ∧ True ∧ True ∧ (Decidable.decide ((↑(ByteArray.size s) : Int) > (1 : Int)) = Bool.true → True ∧ ((0 : Int) ≤ (0 : Int) ∧ (0 : Int) < (↑(ByteArray.size s) : Int)) ∧ True ∧ True ∧ True ∧ (((↑(UInt8.toNat (match (Array.toList (ByteArray.data s))[(0 : Nat)]? with | Option.some x => x | Option.none => (0 : UInt8))) : Int) == (48 : Int)) = Bool.true → True ∧ True ∧ (((0 : Int) = Go.Proofs.YtkihnmpjpbfiaaaDoor.Mine.tnN s ∧ Bool.false = Go.Proofs.YtkihnmpjpbfiaaaDoor.Mine.tnB s ∧ True) ∧ True) ∧ True ∧ True) ∧ (((↑(UInt8.toNat (match (Array.toList (ByteArray.data s))[(0 : Nat)]? with | Option.some x => x | Option.none => (0 : UInt8))) : Int) == (48 : Int)) = Bool.false → True ∧ True ∧ True ∧ ∃ (x0 : Go.Proofs.YtkihnmpjpbfiaaaDoor.Mine.TnI), Go.Proofs.YtkihnmpjpbfiaaaDoor.Mine.TnR s x0 ∧ ((s = s ∧ True ∧ True ∧ True ∧ (0 : Int) = Go.Proofs.YtkihnmpjpbfiaaaDoor.Mine.TnI.n x0 ∧ True ∧ True ∧ True ∧ True ∧ True ∧ True ∧ True ∧ True ∧ True ∧ True ∧ True ∧ True ∧ True ∧ True ∧ True ∧ True ∧ True ∧ True ∧ True ∧ True ∧ True ∧ True ∧ True ∧ True ∧ True ∧ True ∧ True ∧ True ∧ True ∧ True ∧ True ∧ True ∧ True ∧ True ∧ True ∧ True ∧ True ∧ True ∧ True ∧ True ∧ True ∧ True) ∧ True ∧ (s = s ∧ (0 : Nat) = Go.Proofs.YtkihnmpjpbfiaaaDoor.Mine.TnI.pos x0) ∧ True) ∧ ∀ (y : Go.Proofs.YtkihnmpjpbfiaaaDoor.Mine.TnI), Go.Proofs.YtkihnmpjpbfiaaaDoor.Mine.TnR s y → True ∧ True ∧ (Decidable.decide (Go.Proofs.YtkihnmpjpbfiaaaDoor.Mine.TnI.pos y < ByteArray.size s) = Bool.true → Decidable.decide (Go.Proofs.YtkihnmpjpbfiaaaDoor.Mine.TnI.pos y < ByteArray.size s) = Bool.true ∧ True ∧ True ∧ True ∧ True ∧ True ∧ True ∧ True ∧ True ∧ (Decidable.decide (Go.IntKind.wrap Go.IntKind.i64 (Go.IntKind.wrap Go.IntKind.i32 ((↑(Prod.fst (Go.Utf8.decode s (Go.Proofs.YtkihnmpjpbfiaaaDoor.Mine.TnI.pos y))) : Int) - (48 : Int))) < (0 : Int)) = Bool.false → True ∧ True ∧ True ∧ True ∧ (Decidable.decide (Go.IntKind.wrap Go.IntKind.i64 (Go.IntKind.wrap Go.IntKind.i32 ((↑(Prod.fst (Go.Utf8.decode s (Go.Proofs.YtkihnmpjpbfiaaaDoor.Mine.TnI.pos y))) : Int) - (48 : Int))) > (9 : Int)) = Bool.false → True ∧ True ∧ True ∧ True ∧ True ∧ True ∧ (Decidable.decide (Go.Proofs.YtkihnmpjpbfiaaaDoor.Mine.TnI.n y > Go.IntKind.wrap Go.IntKind.i64 (Int.tdiv (Go.IntKind.wrap Go.IntKind.i64 ((4611686018427387904 : Int) - Go.IntKind.wrap Go.IntKind.i64 (Go.IntKind.wrap Go.IntKind.i32 ((↑(Prod.fst (Go.Utf8.decode s (Go.Proofs.YtkihnmpjpbfiaaaDoor.Mine.TnI.pos y))) : Int) - (48 : Int))))) (10 : Int))) = Bool.true → True ∧ True ∧ (((0 : Int) = Go.Proofs.YtkihnmpjpbfiaaaDoor.Mine.tnN s ∧ Bool.false = Go.Proofs.YtkihnmpjpbfiaaaDoor.Mine.tnB s ∧ True) ∧ True) ∧ True ∧ True) ∧ (Decidable.decide (Go.Proofs.YtkihnmpjpbfiaaaDoor.Mine.TnI.n y > Go.IntKind.wrap Go.IntKind.i64 (Int.tdiv (Go.IntKind.wrap Go.IntKind.i64 ((4611686018427387904 : Int) - Go.IntKind.wrap Go.IntKind.i64 (Go.IntKind.wrap Go.IntKind.i32 ((↑(Prod.fst (Go.Utf8.decode s (Go.Proofs.YtkihnmpjpbfiaaaDoor.Mine.TnI.pos y))) : Int) - (48 : Int))))) (10 : Int))) = Bool.false → True ∧ True ∧ True ∧ True ∧ True ∧ ∃ (y' : Go.Proofs.YtkihnmpjpbfiaaaDoor.Mine.TnI), ByteArray.size s - Go.Proofs.YtkihnmpjpbfiaaaDoor.Mine.TnI.pos y' < ByteArray.size s - Go.Proofs.YtkihnmpjpbfiaaaDoor.Mine.TnI.pos y ∧ Go.Proofs.YtkihnmpjpbfiaaaDoor.Mine.TnR s y' ∧ (s = s ∧ True ∧ True ∧ True ∧ Go.IntKind.wrap Go.IntKind.i64 (Go.IntKind.wrap Go.IntKind.i64 (Go.Proofs.YtkihnmpjpbfiaaaDoor.Mine.TnI.n y * (10 : Int)) + Go.IntKind.wrap Go.IntKind.i64 (Go.IntKind.wrap Go.IntKind.i32 ((↑(Prod.fst (Go.Utf8.decode s (Go.Proofs.YtkihnmpjpbfiaaaDoor.Mine.TnI.pos y))) : Int) - (48 : Int)))) = Go.Proofs.YtkihnmpjpbfiaaaDoor.Mine.TnI.n y' ∧ True ∧ True ∧ True ∧ True ∧ True ∧ True ∧ True ∧ True ∧ True ∧ True ∧ True ∧ True ∧ True ∧ True ∧ True ∧ True ∧ True ∧ True ∧ True ∧ True ∧ True ∧ True ∧ True ∧ True ∧ True ∧ True ∧ True ∧ True ∧ True ∧ True ∧ True ∧ True ∧ True ∧ True ∧ True ∧ True ∧ True ∧ True ∧ True ∧ True ∧ True ∧ True) ∧ True ∧ (s = s ∧ (if Go.Proofs.YtkihnmpjpbfiaaaDoor.Mine.TnI.pos y < ByteArray.size s then Go.Proofs.YtkihnmpjpbfiaaaDoor.Mine.TnI.pos y + Prod.snd (Go.Utf8.decode s (Go.Proofs.YtkihnmpjpbfiaaaDoor.Mine.TnI.pos y)) else Go.Proofs.YtkihnmpjpbfiaaaDoor.Mine.TnI.pos y) = Go.Proofs.YtkihnmpjpbfiaaaDoor.Mine.TnI.pos y') ∧ True)) ∧ (Decidable.decide (Go.IntKind.wrap Go.IntKind.i64 (Go.IntKind.wrap Go.IntKind.i32 ((↑(Prod.fst (Go.Utf8.decode s (Go.Proofs.YtkihnmpjpbfiaaaDoor.Mine.TnI.pos y))) : Int) - (48 : Int))) > (9 : Int)) = Bool.true → True ∧ True ∧ True ∧ (((0 : Int) = Go.Proofs.YtkihnmpjpbfiaaaDoor.Mine.tnN s ∧ Bool.false = Go.Proofs.YtkihnmpjpbfiaaaDoor.Mine.tnB s ∧ True) ∧ True) ∧ True ∧ True)) ∧ (Decidable.decide (Go.IntKind.wrap Go.IntKind.i64 (Go.IntKind.wrap Go.IntKind.i32 ((↑(Prod.fst (Go.Utf8.decode s (Go.Proofs.YtkihnmpjpbfiaaaDoor.Mine.TnI.pos y))) : Int) - (48 : Int))) < (0 : Int)) = Bool.true → True ∧ True ∧ True ∧ True ∧ True ∧ (((0 : Int) = Go.Proofs.YtkihnmpjpbfiaaaDoor.Mine.tnN s ∧ Bool.false = Go.Proofs.YtkihnmpjpbfiaaaDoor.Mine.tnB s ∧ True) ∧ True) ∧ True ∧ True)) ∧ (Decidable.decide (Go.Proofs.YtkihnmpjpbfiaaaDoor.Mine.TnI.pos y < ByteArray.size s) = Bool.false → True ∧ True ∧ True ∧ ((Go.Proofs.YtkihnmpjpbfiaaaDoor.Mine.TnI.n y = Go.Proofs.YtkihnmpjpbfiaaaDoor.Mine.tnN s ∧ Bool.true = Go.Proofs.YtkihnmpjpbfiaaaDoor.Mine.tnB s ∧ True) ∧ True) ∧ True ∧ True))) ∧ (Decidable.decide ((↑(ByteArray.size s) : Int) > (1 : Int)) = Bool.false → True ∧ True ∧ True ∧ True ∧ True ∧ ∃ (x0 : Go.Proofs.YtkihnmpjpbfiaaaDoor.Mine.TnI), Go.Proofs.YtkihnmpjpbfiaaaDoor.Mine.TnR s x0 ∧ ((s = s ∧ True ∧ True ∧ True ∧ (0 : Int) = Go.Proofs.YtkihnmpjpbfiaaaDoor.Mine.TnI.n x0 ∧ True ∧ True ∧ True ∧ True ∧ True ∧ True ∧ True ∧ True ∧ True ∧ True ∧ True ∧ True ∧ True ∧ True ∧ True ∧ True ∧ True ∧ True ∧ True ∧ True ∧ True ∧ True ∧ True ∧ True ∧ True ∧ True ∧ True ∧ True ∧ True ∧ True ∧ True ∧ True ∧ True ∧ True ∧ True ∧ True ∧ True ∧ True ∧ True ∧ True ∧ True ∧ True) ∧ True ∧ (s = s ∧ (0 : Nat) = Go.Proofs.YtkihnmpjpbfiaaaDoor.Mine.TnI.pos x0) ∧ True) ∧ ∀ (y : Go.Proofs.YtkihnmpjpbfiaaaDoor.Mine.TnI), Go.Proofs.YtkihnmpjpbfiaaaDoor.Mine.TnR s y → True ∧ True ∧ (Decidable.decide (Go.Proofs.YtkihnmpjpbfiaaaDoor.Mine.TnI.pos y < ByteArray.size s) = Bool.true → Decidable.decide (Go.Proofs.YtkihnmpjpbfiaaaDoor.Mine.TnI.pos y < ByteArray.size s) = Bool.true ∧ True ∧ True ∧ True ∧ True ∧ True ∧ True ∧ True ∧ True ∧ (Decidable.decide (Go.IntKind.wrap Go.IntKind.i64 (Go.IntKind.wrap Go.IntKind.i32 ((↑(Prod.fst (Go.Utf8.decode s (Go.Proofs.YtkihnmpjpbfiaaaDoor.Mine.TnI.pos y))) : Int) - (48 : Int))) < (0 : Int)) = Bool.false → True ∧ True ∧ True ∧ True ∧ (Decidable.decide (Go.IntKind.wrap Go.IntKind.i64 (Go.IntKind.wrap Go.IntKind.i32 ((↑(Prod.fst (Go.Utf8.decode s (Go.Proofs.YtkihnmpjpbfiaaaDoor.Mine.TnI.pos y))) : Int) - (48 : Int))) > (9 : Int)) = Bool.false → True ∧ True ∧ True ∧ True ∧ True ∧ True ∧ (Decidable.decide (Go.Proofs.YtkihnmpjpbfiaaaDoor.Mine.TnI.n y > Go.IntKind.wrap Go.IntKind.i64 (Int.tdiv (Go.IntKind.wrap Go.IntKind.i64 ((4611686018427387904 : Int) - Go.IntKind.wrap Go.IntKind.i64 (Go.IntKind.wrap Go.IntKind.i32 ((↑(Prod.fst (Go.Utf8.decode s (Go.Proofs.YtkihnmpjpbfiaaaDoor.Mine.TnI.pos y))) : Int) - (48 : Int))))) (10 : Int))) = Bool.true → True ∧ True ∧ (((0 : Int) = Go.Proofs.YtkihnmpjpbfiaaaDoor.Mine.tnN s ∧ Bool.false = Go.Proofs.YtkihnmpjpbfiaaaDoor.Mine.tnB s ∧ True) ∧ True) ∧ True ∧ True) ∧ (Decidable.decide (Go.Proofs.YtkihnmpjpbfiaaaDoor.Mine.TnI.n y > Go.IntKind.wrap Go.IntKind.i64 (Int.tdiv (Go.IntKind.wrap Go.IntKind.i64 ((4611686018427387904 : Int) - Go.IntKind.wrap Go.IntKind.i64 (Go.IntKind.wrap Go.IntKind.i32 ((↑(Prod.fst (Go.Utf8.decode s (Go.Proofs.YtkihnmpjpbfiaaaDoor.Mine.TnI.pos y))) : Int) - (48 : Int))))) (10 : Int))) = Bool.false → True ∧ True ∧ True ∧ True ∧ True ∧ ∃ (y' : Go.Proofs.YtkihnmpjpbfiaaaDoor.Mine.TnI), ByteArray.size s - Go.Proofs.YtkihnmpjpbfiaaaDoor.Mine.TnI.pos y' < ByteArray.size s - Go.Proofs.YtkihnmpjpbfiaaaDoor.Mine.TnI.pos y ∧ Go.Proofs.YtkihnmpjpbfiaaaDoor.Mine.TnR s y' ∧ (s = s ∧ True ∧ True ∧ True ∧ Go.IntKind.wrap Go.IntKind.i64 (Go.IntKind.wrap Go.IntKind.i64 (Go.Proofs.YtkihnmpjpbfiaaaDoor.Mine.TnI.n y * (10 : Int)) + Go.IntKind.wrap Go.IntKind.i64 (Go.IntKind.wrap Go.IntKind.i32 ((↑(Prod.fst (Go.Utf8.decode s (Go.Proofs.YtkihnmpjpbfiaaaDoor.Mine.TnI.pos y))) : Int) - (48 : Int)))) = Go.Proofs.YtkihnmpjpbfiaaaDoor.Mine.TnI.n y' ∧ True ∧ True ∧ True ∧ True ∧ True ∧ True ∧ True ∧ True ∧ True ∧ True ∧ True ∧ True ∧ True ∧ True ∧ True ∧ True ∧ True ∧ True ∧ True ∧ True ∧ True ∧ True ∧ True ∧ True ∧ True ∧ True ∧ True ∧ True ∧ True ∧ True ∧ True ∧ True ∧ True ∧ True ∧ True ∧ True ∧ True ∧ True ∧ True ∧ True ∧ True ∧ True) ∧ True ∧ (s = s ∧ (if Go.Proofs.YtkihnmpjpbfiaaaDoor.Mine.TnI.pos y < ByteArray.size s then Go.Proofs.YtkihnmpjpbfiaaaDoor.Mine.TnI.pos y + Prod.snd (Go.Utf8.decode s (Go.Proofs.YtkihnmpjpbfiaaaDoor.Mine.TnI.pos y)) else Go.Proofs.YtkihnmpjpbfiaaaDoor.Mine.TnI.pos y) = Go.Proofs.YtkihnmpjpbfiaaaDoor.Mine.TnI.pos y') ∧ True)) ∧ (Decidable.decide (Go.IntKind.wrap Go.IntKind.i64 (Go.IntKind.wrap Go.IntKind.i32 ((↑(Prod.fst (Go.Utf8.decode s (Go.Proofs.YtkihnmpjpbfiaaaDoor.Mine.TnI.pos y))) : Int) - (48 : Int))) > (9 : Int)) = Bool.true → True ∧ True ∧ True ∧ (((0 : Int) = Go.Proofs.YtkihnmpjpbfiaaaDoor.Mine.tnN s ∧ Bool.false = Go.Proofs.YtkihnmpjpbfiaaaDoor.Mine.tnB s ∧ True) ∧ True) ∧ True ∧ True)) ∧ (Decidable.decide (Go.IntKind.wrap Go.IntKind.i64 (Go.IntKind.wrap Go.IntKind.i32 ((↑(Prod.fst (Go.Utf8.decode s (Go.Proofs.YtkihnmpjpbfiaaaDoor.Mine.TnI.pos y))) : Int) - (48 : Int))) < (0 : Int)) = Bool.true → True ∧ True ∧ True ∧ True ∧ True ∧ (((0 : Int) = Go.Proofs.YtkihnmpjpbfiaaaDoor.Mine.tnN s ∧ Bool.false = Go.Proofs.YtkihnmpjpbfiaaaDoor.Mine.tnB s ∧ True) ∧ True) ∧ True ∧ True)) ∧ (Decidable.decide (Go.Proofs.YtkihnmpjpbfiaaaDoor.Mine.TnI.pos y < ByteArray.size s) = Bool.false → True ∧ True ∧ True ∧ ((Go.Proofs.YtkihnmpjpbfiaaaDoor.Mine.TnI.n y = Go.Proofs.YtkihnmpjpbfiaaaDoor.Mine.tnN s ∧ Bool.true = Go.Proofs.YtkihnmpjpbfiaaaDoor.Mine.tnB s ∧ True) ∧ True) ∧ True ∧ True))) ∧ ((ByteArray.toList s == []) = Bool.true → True ∧ True ∧ True ∧ (((0 : Int) = Go.Proofs.YtkihnmpjpbfiaaaDoor.Mine.tnN s ∧ Bool.false = Go.Proofs.YtkihnmpjpbfiaaaDoor.Mine.tnB s ∧ True) ∧ True) ∧ True ∧ True)) := by kernel_rfl

theorem size_eq (s : ByteArray) : s.data.toList.length = s.size := by rw [Array.length_toList]; rfl
theorem rune_at (s : ByteArray) (p : Nat) (h : p < s.size) : ∃ b r, s.data.toList.drop p = b :: r ∧ s.data.toList.drop (p + 1) = r ∧ ((b.toNat < 128 ∧ Utf8.decode s p = (b.toNat, 1)) ∨ (128 ≤ b.toNat ∧ 128 ≤ (Utf8.decode s p).1 ∧ (Utf8.decode s p).1 ≤ 2147483647 ∧ 1 ≤ (Utf8.decode s p).2)) := by
  have hl : p < s.data.toList.length := by rw [size_eq]; exact h
  refine ⟨s[p]'h, s.data.toList.drop (p + 1), ?_, rfl, ?_⟩
  · rw [List.drop_eq_getElem_cons hl]; rfl
  · rcases Nat.lt_or_ge (s[p]'h).toNat 128 with hb | hb
    · exact .inl ⟨hb, decode_ascii s p h hb⟩
    · exact .inr ⟨hb, (decode_high s p h hb).1, decode_le s p, (decode_high s p h hb).2⟩
theorem wrapD {r : Nat} (h : r ≤ 2147483647) : IntKind.wrap .i64 (IntKind.wrap .i32 ((r : Int) - 48)) = (r : Int) - 48 := by
  simp [IntKind.wrap, IntKind.bits, IntKind.signed]; omega
theorem wrap64 {x : Int} (h : -2 ^ 63 ≤ x) (h' : x < 2 ^ 63) : IntKind.wrap .i64 x = x := by
  simp [IntKind.wrap, IntKind.bits, IntKind.signed]; omega
theorem toList_eq (s : ByteArray) : s.toList = s.data.toList := Go.ByteArray.toList_eq s

theorem tn_first (s : ByteArray) (h : s.toList ≠ []) (h' : (s.size : Int) > 1 → ((match s.data.toList[0]? with
  | some x => x
  | none => 0 : UInt8).toNat : Int) ≠ 48) : takeT s.data.toList 0 = tnT s.data.toList := by
  rw [toList_eq] at h
  have e := size_eq s
  match hl : s.data.toList with
  | [] => exact absurd hl h
  | [b] => simp [tnT]
  | b :: c :: r =>
    rw [hl] at h' e
    have := h' (by simp at e; omega)
    simp at this
    have : ¬ b.toNat = 48 := by omega
    simp [tnT, this]

theorem tn_none {s : ByteArray} (h : tnT s.data.toList = none) : 0 = tnN s ∧ false = tnB s := by simp [tnN, tnB, h]
theorem tn_some {s : ByteArray} {n : Int} (h : tnT s.data.toList = some n) : n = tnN s ∧ true = tnB s := by simp [tnN, tnB, h]

theorem tn_walk (s : ByteArray) : awp C0 (howTn s) (bodyOf Tryd.f20) ⟨[.str s] ++ List.replicate 45 .u, [], []⟩ (finA C0.P Tryd.f20 0 (tnVal s) []) := by
  rw [tn_vc]
  simp only [true_and, and_true, decide_eq_true_eq, decide_eq_false_iff_not, beq_iff_eq, beq_eq_false_iff_ne]
  refine ⟨fun h1 => ⟨fun h2 => ⟨⟨by omega, by omega⟩, fun h3 => ?_, fun h3 => ?loopA⟩, fun h2 => ?loopB⟩, fun h => ?_⟩
  · refine tn_none ?_
    have e := size_eq s
    match hl : s.data.toList with
    | [] => simp [hl] at e; omega
    | [b] => simp [hl] at e; omega
    | b :: c :: r =>
      rw [hl] at h3
      simp at h3
      have : b.toNat = 48 := by omega
      simp [tnT, this]
  case' loopA => have hz := tn_first s h1 (fun _ => h3)
  case' loopB => have hz := tn_first s h1 (fun h => absurd h h2)
  case' loopA | loopB =>
    refine ⟨⟨0, 0⟩, ⟨Int.le_refl _, by show (0 : Int) ≤ 2 ^ 62; decide, Nat.zero_le _, hz⟩, ⟨rfl, rfl⟩, ?_⟩
    rintro y ⟨g0, g1, g2, g3⟩
    refine ⟨fun hp => ⟨hp, ?_⟩, fun hp => ?_⟩
    · obtain ⟨b, r, hd, hr, hc⟩ := rune_at s y.pos hp
      rw [hd] at g3
      rcases hc with ⟨hb, he⟩ | ⟨hb, he1, he2, he3⟩
      · simp only [he, if_pos hp]
        have w1 : IntKind.wrap .i64 (IntKind.wrap .i32 ((b.toNat : Int) - 48)) = (b.toNat : Int) - 48 := wrapD (by omega)
        rw [w1]
        simp only [takeT] at g3
        refine ⟨fun ha => ⟨fun hb => ?_, fun hb => ?_⟩, fun ha => ?_⟩
        · have hr1 : ¬ (b.toNat < 48 ∨ 57 < b.toNat) := by omega
          rw [if_neg hr1] at g3
          have w2 : IntKind.wrap .i64 (4611686018427387904 - ((b.toNat : Int) - 48)) = 4611686018427387904 - ((b.toNat : Int) - 48) := wrap64 (by omega) (by omega)
          have w3 : (4611686018427387904 - ((b.toNat : Int) - 48)).tdiv 10 = (4611686018427387904 - ((b.toNat : Int) - 48)) / 10 := Int.tdiv_eq_ediv_of_nonneg (by omega)
          have w4 : IntKind.wrap .i64 ((4611686018427387904 - ((b.toNat : Int) - 48)) / 10) = (4611686018427387904 - ((b.toNat : Int) - 48)) / 10 := wrap64 (by omega) (by omega)
          rw [w2, w3, w4]
          refine ⟨fun hq => ?_, fun hq => ?_⟩
          · rw [if_pos (by exact hq)] at g3; exact tn_none g3.symm
          · rw [if_neg (by exact hq)] at g3
            have w5 : IntKind.wrap .i64 (y.n * 10) = y.n * 10 := wrap64 (by omega) (by omega)
            have w6 : IntKind.wrap .i64 (y.n * 10 + ((b.toNat : Int) - 48)) = y.n * 10 + ((b.toNat : Int) - 48) := wrap64 (by omega) (by omega)
            rw [w5, w6]
            exact ⟨⟨y.n * 10 + ((b.toNat : Int) - 48), y.pos + 1⟩, (by show s.size - (y.pos + 1) < s.size - y.pos; omega), ⟨(by show 0 ≤ y.n * 10 + ((b.toNat : Int) - 48); omega), (by show y.n * 10 + ((b.toNat : Int) - 48) ≤ 2 ^ 62; omega), (by show y.pos + 1 ≤ s.size; omega), (by show takeT (s.data.toList.drop (y.pos + 1)) _ = _; rw [hr]; exact g3)⟩, rfl, rfl⟩
        · rw [if_pos (by omega)] at g3; exact tn_none g3.symm
        · rw [if_pos (by omega)] at g3; exact tn_none g3.symm
      · have w1 := wrapD he2
        rw [w1]
        simp only [takeT] at g3
        rw [if_pos (by omega)] at g3
        refine ⟨fun ha => ⟨fun hb => by omega, fun hb => tn_none g3.symm⟩, fun ha => tn_none g3.symm⟩
    · have : s.data.toList.drop y.pos = [] := by rw [List.drop_eq_nil_iff, size_eq]; omega
      rw [this] at g3
      exact tn_some g3.symm
  · rw [toList_eq] at h; exact tn_none (by rw [h]; rfl)

def tnSpec : FSpec := { foot := fun _ _ => [], run := fun av _ fid => match av with
  | [.str s] => some (outR True (tnVal s) [] [] fid)
  | _ => none }
theorem tn_contr : Contr 0 tnSpec (fun s : ByteArray => [.str s]) (fun _ => []) (fun _ => True) tnVal (fun _ => []) where
  run := fun av H fid r h => by
    simp only [tnSpec] at h
    split at h
    · cases h
      rename_i s
      exact ⟨s, [], True, rfl, List.nodup_nil, rfl, fun _ => ⟨trivial, argOk_same (b := .str s), trivial⟩, fun _ j hj => (by simp at hj)⟩
    · cases h
  fitA := fun x => ⟨rfl, rfl, fun j hj => (by omega)⟩
  fitR := fun x => ⟨Nat.zero_le _, rfl, fun j hj => (by simp at hj)⟩
theorem tn_ok : SpecOk Tryd.prog 20 tnSpec :=
  specOk_of_awp (C := C0) (fn := Tryd.f20) (c := bodyOf Tryd.f20) Tryd.func20 (by rfl) tn_contr sp0_ok mixed (how := howTn) (fun s _ => tn_walk s)

end Go.Proofs.YtkihnmpjpbfiaaaDoor.Mine
