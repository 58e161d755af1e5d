/- From a contract to a row. -/
import Derived.Test.YtkihnmpjpbfiaaaDoorB21E
import Derived.Test.YtkihnmpjpbfiaaaDoorCards
import Derived.Test.YtkihnmpjpbfiaaaDoorTie
import Derived.WalkKit
import Derived.ProofKit
import Derived.OpenShut
import Derived.Deep.DeepHandedRow
set_option linter.unusedVariables false
set_option linter.unusedSimpArgs false
namespace Go.Proofs.YtkihnmpjpbfiaaaDoor.Mine
open Go Go.Proofs.YtkihnmpjpbfiaaaDoor.Ev Go.Proofs
open Go.ChangeShapes Go.WideShapes Go.ChangeAt Go.RowKit
set_option maxRecDepth 100000

/-! ### From a contract to a row -/
/-- The old memory is as it was, and what stands outside it. -/
structure OldSame (W W' : World) : Prop where
  os : W'.os = W.os
  out : W'.output = W.output
  old : ∀ b, b < W.heap.size → W'.heap[b]? = W.heap[b]?
theorem OldSame.kept {W W' : World} (h : OldSame W W') (may : MemPlace → Prop) : W.keptBut W' may := by
  refine ⟨h.os, h.out, fun i hi => ?_⟩
  have := (World.keptBut_refl W may).2.2 i hi
  rw [h.old i hi]
  exact this
def env0 (W : World) : Env := ⟨W, fun _ => False, fun _ => none⟩
theorem heap0 (W : World) : Heap (env0 W) (fun _ => none) (fun _ => .gone) (fun _ => False) W :=
  ⟨fun _ h => (by cases h), fun _ _ _ _ _ h => (by cases h), fun _ _ _ => rfl, Nat.le_refl _, fun _ _ h => (by cases h), Bg.refl W, fun _ _ h => (by cases h)⟩
theorem law_true {P : Program} {g : FuncId} {β : Type} {rp : Rest β} {side : β → Prop} (hok : SpecOk P g (plainSpec rp side (fun _ => .b true))) (b : β) (hs : side b) (hrd : rp.rd (rp.wr b) = some b) {args : Array Value} (W : World)
    (m : MatL (env0 W) (fun _ => none) (rp.wr b) args.toList) : Calls P g args W fun e W' => e = .returned (.bool true) ∧ OldSame W W' := by
  refine (hok (env0 W) (fun _ => none) (fun _ => .gone) (fun _ => False) W 0 (rp.wr b) args (outR (side b) (.b true) [] [] 0) m (heap0 W) (by simp [plainSpec, hrd]) (fun _ _ _ => rfl) hs).mono fun e W' ⟨v, he, η', hc⟩ => ?_
  have hv := hc.val
  simp only [outR, AV.ren, Mat] at hv
  subst hv
  refine ⟨he, hc.bg.os, hc.bg.output, fun i hi => hc.frm i hi fun id A ab hu => ?_⟩
  simp [outR, outU, lookup] at hu

theorem post_true {H : Type} {enc : TypeId × Value → H} {P : Program} {f : Func} {s : ChangeSpec} {W W' : World} {args : Array Value} {ds gs : List (DataW H)}
    (hW : DataW.Whole enc P f.params.toList s.vars false W args.toList ds gs []) (ho : OldSame W W')
    (hres : ∀ (b : Nat) (sp : Nat → Bool) (hd : Bool), DataW.TrodAll enc P W' b sp hd f.resultTypes.toList ((Value.bool true).resultList f.resultTypes.size) (s.fn H (ds ++ gs)).results [])
    (hargs : ∀ sp : Nat → Bool, DataW.TrodAll enc P W' 0 sp true f.params.toList args.toList (s.fn H (ds ++ gs)).args [])
    (hvars : ∀ sp : Nat → Bool, DataW.TrodVars enc P W' sp s.vars (s.fn H (ds ++ gs)).vars []) :
    s.post enc P f false true false false W args (.bool true) W' :=
  ⟨ds, gs, [], [], [], [], hW, hres _ _ _, hargs _, hvars _, ho.kept _, fun h => by cases h⟩

/-! ### A world for the witness: the two tables of package utf8 hold what they hold -/
noncomputable def laidWorld (os : Os) : World :=
  let w := World.holding Tryd.prog os ⟨#[], #[], []⟩
  { w with heap := (w.heap.modify 1 fun
      | .cells _ t frozen => .cells (Go.Pinned.utf8FirstZ.map fun (n : Nat) => Value.int .u8 (n : Int)).toArray t frozen
      | o => o).modify 2 fun
      | .cells _ t frozen => .cells (([128, 191, 160, 191, 128, 159, 144, 191, 128, 143] ++ List.replicate 22 0).map fun (n : Nat) => Value.int .u8 (n : Int)).toArray t frozen
      | o => o }
theorem own : ownKnob Tryd.prog.godebug = none := by kernel_rfl
theorem bulk_le {H : Type} {l : List (DataW H)} (hk : Rows.uptoSmall H l = true) : Rows.uptoBulkAll l ≤ 1048576 := of_decide_eq_true hk

end Go.Proofs.YtkihnmpjpbfiaaaDoor.Mine
