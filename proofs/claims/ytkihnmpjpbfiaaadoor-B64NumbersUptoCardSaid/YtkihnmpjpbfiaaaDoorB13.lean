/- Base 64 by threes; the contracts of the reference's digits and value. -/
import Derived.Test.YtkihnmpjpbfiaaaDoorB12
set_option linter.unusedVariables false
set_option linter.unusedSimpArgs false
namespace Go.Proofs.YtkihnmpjpbfiaaaDoor.Mine
open Go Go.Proofs.YtkihnmpjpbfiaaaDoor.Ev Go.Proofs
set_option maxRecDepth 100000

/-! ### Base 64 by threes -/
def d64 (n : Nat) : UInt8 := tbAt Enc.tb n
def e64 : List UInt8 → List UInt8
  | [] => []
  | [a] => [d64 (a.toNat / 4), d64 (a.toNat % 4 * 16), 61, 61]
  | [a, b] => [d64 (a.toNat / 4), d64 (a.toNat % 4 * 16 + b.toNat / 16), d64 (b.toNat % 16 * 4), 61]
  | a :: b :: c :: r => d64 (a.toNat / 4) :: d64 (a.toNat % 4 * 16 + b.toNat / 16) :: d64 (b.toNat % 16 * 4 + c.toNat / 64) :: d64 (c.toNat % 64) :: e64 r
theorem grp3 (a b c : UInt8) (r : List UInt8) : grp 8 6 (a :: b :: c :: r) 0 0 = (a.toNat / 4) :: (a.toNat % 4 * 16 + b.toNat / 16) :: (b.toNat % 16 * 4 + c.toNat / 64) :: (c.toNat % 64) :: grp 8 6 r 0 0 := by
  have ha := a.toNat_lt
  have hb := b.toNat_lt
  have hc := c.toNat_lt
  simp only [grp, outs]
  simp
  refine ⟨by omega, by omega, by omega, by omega, ?_⟩
  rw [Nat.mod_one]
theorem padL_four (a b c d : UInt8) (l : List UInt8) : padL (a :: b :: c :: d :: l) = a :: b :: c :: d :: padL l := by
  unfold padL
  have : (a :: b :: c :: d :: l).length % 4 = l.length % 4 := by simp only [List.length_cons]; omega
  rw [this]; rfl
theorem padL_e64 : ∀ l : List UInt8, padL (encL 6 Enc.tb l) = e64 l
  | [] => rfl
  | [a] => by
    have ha := a.toNat_lt
    simp [encL, grp, outs, padL, e64, d64]
    constructor <;> (congr 1; omega)
  | [a, b] => by
    have ha := a.toNat_lt
    have hb := b.toNat_lt
    simp [encL, grp, outs, padL, e64, d64]
    refine ⟨?_, ?_, ?_⟩ <;> (congr 1; omega)
  | a :: b :: c :: r => by
    have := padL_e64 r
    unfold encL at this ⊢
    rw [grp3]
    simp only [List.map_cons]
    rw [padL_four, this]
    rfl
theorem encS_e64 (s : ByteArray) : encS s = ⟨(e64 s.data.toList).toArray⟩ := by
  unfold encS; rw [padL_e64]

/-! ### digits and value -/
def dgSpec (tb : ByteArray) : FSpec := plainSpec noRest (fun _ => True) (fun _ => .str tb)

theorem dgs_vc  : (awp C0 how0 (bodyOf Tryd.f31) ⟨List.replicate 1 .u, [], []⟩ (finA C0.P Tryd.f31 0 (.str Enc.tb) [])) =
    (True ∧ True ∧ (ByteArray.mk #[(65 : UInt8), (66 : UInt8), (67 : UInt8), (68 : UInt8), (69 : UInt8), (70 : UInt8), (71 : UInt8), (72 : UInt8), (73 : UInt8), (74 : UInt8), (75 : UInt8), (76 : UInt8), (77 : UInt8), (78 : UInt8), (79 : UInt8), (80 : UInt8), (81 : UInt8), (82 : UInt8), (83 : UInt8), (84 : UInt8), (85 : UInt8), (86 : UInt8), (87 : UInt8), (88 : UInt8), (89 : UInt8), (90 : UInt8), (97 : UInt8), (98 : UInt8), (99 : UInt8), (100 : UInt8), (101 : UInt8), (102 : UInt8), (103 : UInt8), (104 : UInt8), (105 : UInt8), (106 : UInt8), (107 : UInt8), (108 : UInt8), (109 : UInt8), (110 : UInt8), (111 : UInt8), (112 : UInt8), (113 : UInt8), (114 : UInt8), (115 : UInt8), (116 : UInt8), (117 : UInt8), (118 : UInt8), (119 : UInt8), (120 : UInt8), (121 : UInt8), (122 : UInt8), (48 : UInt8), (49 : UInt8), (50 : UInt8), (51 : UInt8), (52 : UInt8), (53 : UInt8), (54 : UInt8), (55 : UInt8), (56 : UInt8), (57 : UInt8), (43 : UInt8), (47 : UInt8)] = Go.Proofs.YtkihnmpjpbfiaaaDoor.Mine.Enc.tb ∧ True) ∧ True ∧ True) := by kernel_rfl

theorem dgs_ok : SpecOk Tryd.prog 31 (dgSpec Enc.tb) :=
  plain_ok (C := C0) (fn := Tryd.f31) (c := bodyOf Tryd.f31) rfl Tryd.func31 (by rfl) sp0_ok mixed (fun _ => rfl) (how := fun _ => how0) (fun x _ => by
    show awp C0 how0 (bodyOf Tryd.f31) ⟨List.replicate 1 .u, [], []⟩ (finA C0.P Tryd.f31 0 (.str Enc.tb) [])
    rw [dgs_vc]; simp only [true_and, and_true]; first | rfl | exact ⟨rfl, trivial⟩)

def vN (c : Int) : Int := if dg (byteOf c) < 0 then 0 else dg (byteOf c)
def vB (c : Int) : Bool := decide (0 ≤ dg (byteOf c))
inductive VRel (c : Int) (i : Nat) : Prop where
  | mk (h1 : i ≤ 64) (h2 : dg (byteOf c) = if Lib.indexByte (Enc.tb.data.toList.drop i) (byteOf c) = -1 then -1 else i + Lib.indexByte (Enc.tb.data.toList.drop i) (byteOf c))
def vInv (tb : ByteArray) (c : Int) : LInv := { σ := Nat, st := fun i => ⟨[.i .u8 c, .u, .u, .u, .str tb, .i .i64 i] ++ List.replicate 11 .u, [], []⟩, m := fun i => 64 - i, rel := fun _ i => VRel c i }
def howV (tb : ByteArray) (c : Int) : Nat → How := fun _ => .inv (vInv tb c)
def lV (tb : ByteArray) : List (FuncId × FSpec) := [(31, dgSpec tb)]
theorem lV_ok : AllOk Tryd.prog (lV Enc.tb) := ⟨⟨by decide, fok dgs_ok Tryd.func31 rfl (by kernel_rfl)⟩, trivial⟩
noncomputable def CV (tb : ByteArray) : Ctx := { P := Tryd.prog, sp := spOf (lV tb), nm := false }

theorem v_vc  (tb : ByteArray) (c : Int) : (awp (CV tb) (howV tb c) (bodyOf Tryd.f29) ⟨[.i .u8 c] ++ List.replicate 16 .u, [], []⟩ (finA (CV tb).P Tryd.f29 0 (.t [.i .i64 (vN c), .c (vB c)]) [])) =
    (True ∧ True ∧ True ∧ True ∧ True ∧ ∃ (x0 : Nat), Go.Proofs.YtkihnmpjpbfiaaaDoor.Mine.VRel c x0 ∧ ((c = c ∧ True ∧ True ∧ True ∧ tb = tb ∧ (0 : Int) = (↑x0 : Int) ∧ True ∧ True ∧ True ∧ True ∧ True ∧ True ∧ True ∧ True ∧ True ∧ True ∧ True ∧ True) ∧ True ∧ True) ∧ ∀ (y : Nat), Go.Proofs.YtkihnmpjpbfiaaaDoor.Mine.VRel c y → True ∧ True ∧ (Decidable.decide ((↑y : Int) < (64 : Int)) = Bool.true → True ∧ True ∧ ((0 : Int) ≤ (↑y : Int) ∧ (↑y : Int) < (↑(ByteArray.size tb) : Int)) ∧ True ∧ True ∧ (((↑(UInt8.toNat (match (Array.toList (ByteArray.data tb))[Int.toNat (↑y : Int)]? with | Option.some x => x | Option.none => (0 : UInt8))) : Int) == c) = Bool.true → True ∧ True ∧ True ∧ (((↑y : Int) = Go.Proofs.YtkihnmpjpbfiaaaDoor.Mine.vN c ∧ Bool.true = Go.Proofs.YtkihnmpjpbfiaaaDoor.Mine.vB c ∧ True) ∧ True) ∧ True ∧ True) ∧ (((↑(UInt8.toNat (match (Array.toList (ByteArray.data tb))[Int.toNat (↑y : Int)]? with | Option.some x => x | Option.none => (0 : UInt8))) : Int) == c) = Bool.false → True ∧ True ∧ True ∧ ∃ (y' : Nat), (64 : Nat) - y' < (64 : Nat) - y ∧ Go.Proofs.YtkihnmpjpbfiaaaDoor.Mine.VRel c y' ∧ (c = c ∧ True ∧ True ∧ True ∧ tb = tb ∧ Go.IntKind.wrap Go.IntKind.i64 ((↑y : Int) + (1 : Int)) = (↑y' : Int) ∧ True ∧ True ∧ True ∧ True ∧ True ∧ True ∧ True ∧ True ∧ True ∧ True ∧ True ∧ True) ∧ True ∧ True)) ∧ (Decidable.decide ((↑y : Int) < (64 : Int)) = Bool.false → True ∧ True ∧ (((0 : Int) = Go.Proofs.YtkihnmpjpbfiaaaDoor.Mine.vN c ∧ Bool.false = Go.Proofs.YtkihnmpjpbfiaaaDoor.Mine.vB c ∧ True) ∧ True) ∧ True ∧ True)) := by kernel_rfl

theorem v_walk (c : Int) (hc : 0 ≤ c ∧ c < 256) : awp (CV Enc.tb) (howV Enc.tb c) (bodyOf Tryd.f29) ⟨[.i .u8 c] ++ List.replicate 16 .u, [], []⟩ (finA (CV Enc.tb).P Tryd.f29 0 (.t [.i .i64 (vN c), .c (vB c)]) []) := by
  rw [v_vc]
  simp only [true_and, and_true, decide_eq_true_eq, decide_eq_false_iff_not, beq_iff_eq, beq_eq_false_iff_ne, bne_iff_ne, bne_eq_false_iff_eq]
  have hbc : (byteOf c).toNat = c.toNat := by unfold byteOf; rw [UInt8.toNat_ofNat']; omega
  refine ⟨0, ⟨by decide, ?_⟩, rfl, ?_⟩
  · rw [List.drop_zero]
    unfold dg
    split <;> simp_all
  · rintro y ⟨h1, h2⟩
    have h64 : Enc.tb.size = 64 := rfl
    refine ⟨fun hy => ⟨⟨by omega, by omega⟩, ?_⟩, fun hy => ?_⟩
    · obtain ⟨b, hb0, hbd⟩ := byte_at (s := Enc.tb) (i := y) (by omega)
      rw [Int.toNat_natCast, hb0]
      rw [hbd] at h2
      simp only
      unfold Lib.indexByte at h2
      refine ⟨fun he => ?_, fun he => ⟨y + 1, by omega, ⟨by omega, ?_⟩, by rw [wrap64 (by omega) (by omega)]; omega⟩⟩
      · have hb : (b == byteOf c) = true := by
          rw [beq_iff_eq, ← UInt8.toNat_inj, hbc]; omega
        rw [hb] at h2
        simp at h2
        unfold vN vB
        rw [h2]
        simp
        omega
      · have hb : (b == byteOf c) = false := by
          rw [beq_eq_false_iff_ne]
          intro e; apply he; rw [e, hbc]; omega
        rw [hb] at h2
        simp only [Bool.false_eq_true, if_false] at h2
        rw [h2]
        have hge := Lib.indexByte_ge (Enc.tb.data.toList.drop (y + 1)) (byteOf c)
        by_cases hm : Lib.indexByte (Enc.tb.data.toList.drop (y + 1)) (byteOf c) = -1
        · simp [hm]
        · have hm' : (Lib.indexByte (Enc.tb.data.toList.drop (y + 1)) (byteOf c) == -1) = false := by simpa using hm
          rw [hm', if_neg (by simp only [Bool.false_eq_true, if_false]; omega)]
          simp only [Bool.false_eq_true, if_false]
          rw [if_neg hm]; omega
    · have : Enc.tb.data.toList.drop y = [] := by rw [List.drop_eq_nil_iff, size_eq]; omega
      rw [this] at h2
      have h3 : dg (byteOf c) = -1 := by rw [h2]; rfl
      simp [vN, vB, h3]
def u8Spec (val : Int → AV) : FSpec := plainSpec u8Rest (fun c => 0 ≤ c ∧ c < 256) val
def vSpec : FSpec := plainSpec u8Rest (fun c => 0 ≤ c ∧ c < 256) (fun c => .t [.i .i64 (vN c), .c (vB c)])
theorem v_ok : SpecOk Tryd.prog 29 vSpec :=
  plain_ok (C := CV Enc.tb) (fn := Tryd.f29) (c := bodyOf Tryd.f29) rfl Tryd.func29 (by rfl) (spOf_ok lV_ok) mixed (fun _ => rfl) (how := howV Enc.tb) (fun c hc => v_walk c hc)

end Go.Proofs.YtkihnmpjpbfiaaaDoor.Mine
