/- The contract of b64.groups: it hands back its closure over three new variables. -/
import Derived.Test.YtkihnmpjpbfiaaaDoorEv23
import Derived.Test.YtkihnmpjpbfiaaaDoorProg
set_option linter.unusedVariables false
set_option linter.unusedSimpArgs false
namespace Go.Proofs.YtkihnmpjpbfiaaaDoor.Mine
open Go Go.Proofs.YtkihnmpjpbfiaaaDoor.Ev Go.Proofs
set_option maxRecDepth 100000
def bodyOf (f : Func) : Code := match f.body with | some c => c | none => .skip

/-! ### groups -/
def sp0 : Specs := fun _ => none
noncomputable def C0 : Ctx := { P := Tryd.prog, sp := sp0, nm := false }
def how0 : Nat → How := fun _ => .unroll 1
structure GIn where
  s : ByteArray
  x : Int
  y : Int
def gArgs (i : GIn) : List AV := [.str i.s, .n .i64 i.x, .n .i64 i.y]
def gVal (_ : GIn) : AV := .f (.func 32) [] [.p 0 0, .p 1 0, .p 2 0]
def gHeap (i : GIn) : List AB := [.cells (some 9) [.str i.s], .cells (some 3) [.n .i64 i.x], .cells (some 3) [.n .i64 i.y]]
def gSpec : FSpec := { foot := fun _ _ => [], run := fun av _ fid => match av with
  | [.str s, .n .i64 x, .n .i64 y] => some (outR True (gVal ⟨s, x, y⟩) (gHeap ⟨s, x, y⟩) [] fid)
  | _ => none }

theorem groups_vc  (i : GIn) : (awp C0 how0 (bodyOf Tryd.f22) ⟨gArgs i ++ List.replicate 5 .u, [], []⟩ (finA C0.P Tryd.f22 0 (gVal i) (gHeap i))) =
    (True ∧ True ∧ True ∧ True ∧ True ∧ True ∧ ((True ∧ True ∧ True ∧ True ∧ True) ∧ True) ∧ True ∧ (Go.Proofs.YtkihnmpjpbfiaaaDoor.Mine.GIn.s i = Go.Proofs.YtkihnmpjpbfiaaaDoor.Mine.GIn.s i ∧ True) ∧ (Go.Proofs.YtkihnmpjpbfiaaaDoor.Mine.GIn.x i = Go.Proofs.YtkihnmpjpbfiaaaDoor.Mine.GIn.x i ∧ True) ∧ (Go.Proofs.YtkihnmpjpbfiaaaDoor.Mine.GIn.y i = Go.Proofs.YtkihnmpjpbfiaaaDoor.Mine.GIn.y i ∧ True) ∧ True) := by kernel_rfl

theorem mixed : Tryd.prog.follows .mixedOrders = true := by kernel_rfl
theorem sp0_ok : SpecsOk Tryd.prog sp0 := fun _ _ h => (by cases h)

theorem groups_contr : Contr 0 gSpec gArgs (fun _ => []) (fun _ => True) gVal gHeap where
  run := fun av H fid r h => by
    simp only [gSpec] at h
    split at h
    · cases h
      rename_i s x y
      exact ⟨⟨s, x, y⟩, [], True, rfl, List.nodup_nil, rfl, fun _ => ⟨trivial, argOk_same (b := .str s), argOk_same (b := .n .i64 x), argOk_same (b := .n .i64 y), trivial⟩, fun _ j hj => (by simp at hj)⟩
    · cases h
  fitA := fun x => ⟨rfl, rfl, fun j hj => (by omega)⟩
  fitR := fun x => ⟨Nat.zero_le _, rfl, fun j hj => by
    match j, hj with
    | 0, _ => rfl
    | 1, _ => rfl
    | 2, _ => rfl⟩

theorem groups_ok : SpecOk Tryd.prog 22 gSpec :=
  specOk_of_awp (C := C0) (fn := Tryd.f22) (c := bodyOf Tryd.f22) Tryd.func22 (by rfl) groups_contr sp0_ok mixed (how := fun _ => how0) (fun i _ => by
      show awp C0 how0 (bodyOf Tryd.f22) ⟨gArgs i ++ List.replicate 5 .u, [], []⟩ (finA C0.P Tryd.f22 0 (gVal i) (gHeap i))
      rw [groups_vc]; simp)

end Go.Proofs.YtkihnmpjpbfiaaaDoor.Mine
