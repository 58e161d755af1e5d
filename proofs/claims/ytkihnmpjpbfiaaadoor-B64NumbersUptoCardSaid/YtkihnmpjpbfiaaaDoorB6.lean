/- Contracts of functions of plain values; lists of contracts. -/
import Derived.Test.YtkihnmpjpbfiaaaDoorB5
set_option linter.unusedVariables false
set_option linter.unusedSimpArgs false
namespace Go.Proofs.YtkihnmpjpbfiaaaDoor.Mine
open Go Go.Proofs.YtkihnmpjpbfiaaaDoor.Ev Go.Proofs
set_option maxRecDepth 100000

/-! ### Functions of plain values that leave memory alone -/
def plainSpec {β : Type} (rp : Rest β) (side : β → Prop) (val : β → AV) : FSpec := { foot := fun _ _ => [], run := fun av _ fid => match rp.rd av with
  | some b => some (outR (side b) (val b) [] [] fid)
  | none => none }
theorem plain_contr {β : Type} {rp : Rest β} {side : β → Prop} {val : β → AV} (hfit : ∀ b, (val b).fit false 0 = true) : Contr 0 (plainSpec rp side val) rp.wr (fun _ => []) side val (fun _ => []) where
  run := fun av H fid r h => by
    simp only [plainSpec] at h
    split at h
    · rename_i b hb
      cases h
      exact ⟨b, [], side b, rfl, List.nodup_nil, rfl, fun hs => ⟨hs, rp.ok _ _ hb _ _⟩, fun _ j hj => (by simp at hj)⟩
    · cases h
  fitA := fun b => ⟨rp.fit b 0, rfl, fun j hj => (by omega)⟩
  fitR := fun b => ⟨Nat.zero_le _, hfit b, fun j hj => (by simp at hj)⟩

def i64Rest : Rest Int where
  rd := fun r => match r with
    | [a] => match avInt? a with
      | some (.i64, c) => some c
      | _ => none
    | _ => none
  wr := fun c => [.i .i64 c]
  ok := fun r b h H ids => by
    split at h
    · split at h
      · rename_i hc; cases h; exact ⟨argOk_int hc, trivial⟩
      · cases h
    · cases h
  fit := fun _ _ => rfl
def strU8Rest : Rest (ByteArray × Int) where
  rd := fun r => match r with
    | [.str s, a] => match avInt? a with
      | some (.u8, c) => some (s, c)
      | _ => none
    | _ => none
  wr := fun x => [.str x.1, .i .u8 x.2]
  ok := fun r b h H ids => by
    split at h
    · split at h
      · rename_i hc; cases h; exact ⟨argOk_same (b := .str _), argOk_int hc, trivial⟩
      · cases h
    · cases h
  fit := fun _ _ => rfl
def strI32Rest : Rest (ByteArray × Int) where
  rd := fun r => match r with
    | [.str s, a] => match avInt? a with
      | some (.i32, c) => some (s, c)
      | _ => none
    | _ => none
  wr := fun x => [.str x.1, .i .i32 x.2]
  ok := fun r b h H ids => by
    split at h
    · split at h
      · rename_i hc; cases h; exact ⟨argOk_same (b := .str _), argOk_int hc, trivial⟩
      · cases h
    · cases h
  fit := fun _ _ => rfl
def i32Rest : Rest Int where
  rd := fun r => match r with
    | [a] => match avInt? a with
      | some (.i32, c) => some c
      | _ => none
    | _ => none
  wr := fun c => [.i .i32 c]
  ok := fun r b h H ids => by
    split at h
    · split at h
      · rename_i hc; cases h; exact ⟨argOk_int hc, trivial⟩
      · cases h
    · cases h
  fit := fun _ _ => rfl
def str2Rest : Rest (ByteArray × ByteArray) where
  rd := fun r => match r with
    | [.str s, .str t] => some (s, t)
    | _ => none
  wr := fun x => [.str x.1, .str x.2]
  ok := fun r b h H ids => by
    split at h
    · cases h; exact ⟨argOk_same (b := .str _), argOk_same (b := .str _), trivial⟩
    · cases h
  fit := fun _ _ => rfl

/-- One contract, under either condition. -/
theorem spec_or {P : Program} {g : FuncId} {β : Type} {rp : Rest β} {p q : β → Prop} {val : β → AV} (h1 : SpecOk P g (plainSpec rp p val)) (h2 : SpecOk P g (plainSpec rp q val)) :
    SpecOk P g (plainSpec rp (fun b => p b ∨ q b) val) := by
  intro E η H D w fid av args r m hH h hN hs
  simp only [plainSpec] at h
  split at h
  · rename_i b hb
    cases h
    rcases hs with hs | hs
    · exact (h1 E η H D w fid av args (outR (p b) (val b) [] [] fid) m hH (by simp [plainSpec, hb]) hN hs).mono fun e w' ⟨v, he, η', hc⟩ => ⟨v, he, η', ⟨hc.ext, hc.dom, hc.val, hc.upd, hc.dst, hc.frm, hc.sz, hc.bg⟩⟩
    · exact (h2 E η H D w fid av args (outR (q b) (val b) [] [] fid) m hH (by simp [plainSpec, hb]) hN hs).mono fun e w' ⟨v, he, η', hc⟩ => ⟨v, he, η', ⟨hc.ext, hc.dom, hc.val, hc.upd, hc.dst, hc.frm, hc.sz, hc.bg⟩⟩
  · cases h

/-- A function's contract out of its account. -/
theorem plain_ok {C : Ctx} {g : FuncId} {fn : Func} {c : Code} {β : Type} {rp : Rest β} {side : β → Prop} {val : β → AV} {how : β → Nat → How} (hna : C.na = 0) (hfn : C.P.funcs[g]? = some fn) (hb : fn.body = some c) (hsp : SpecsOk C.P C.sp) (hmix : C.P.follows .mixedOrders = true) (hfit : ∀ b, (val b).fit false 0 = true)
    (hw : ∀ x, side x → awp C (how x) c ⟨rp.wr x ++ List.replicate (fn.ntmps - (rp.wr x).length) .u, [], []⟩ (finA C.P fn C.na (val x) [])) : SpecOk C.P g (plainSpec rp side val) :=
  specOk_of_awp hfn hb (by rw [hna]; exact plain_contr hfit) hsp hmix hw

/-! ### A list of contracts -/
def spOf : List (FuncId × FSpec) → Specs
  | [], _ => none
  | (f, s) :: r, g => if g = f then some s else spOf r g
def FOk (P : Program) (g : FuncId) (s : FSpec) : Prop := (SpecOk P g s ∧ ∃ fn b, P.funcs[g]? = some fn ∧ fn.body = some b ∧ (fn.name == "runtime.NumGoroutine") = false) ∨ ExtOk P g s
def AllOk (P : Program) : List (FuncId × FSpec) → Prop
  | [] => True
  | (g, s) :: r => (g ≠ yieldKey ∧ FOk P g s) ∧ AllOk P r
theorem spOf_ok {P : Program} : ∀ {l : List (FuncId × FSpec)}, AllOk P l → SpecsOk P (spOf l)
  | [], _, _, _, h => by cases h
  | (f, s) :: r, h, g, s', e => by
    simp only [spOf] at e
    split at e
    · rename_i hg
      cases e; subst hg
      rw [if_neg h.1.1]
      exact h.1.2
    · exact spOf_ok h.2 g s' e

end Go.Proofs.YtkihnmpjpbfiaaaDoor.Mine
