/- The contract of (*strings.Builder).copyCheck. -/
import Derived.Test.YtkihnmpjpbfiaaaDoorB1
import Derived.Laws.Entries
set_option linter.unusedVariables false
set_option linter.unusedSimpArgs false
namespace Go.Proofs.YtkihnmpjpbfiaaaDoor.Mine
open Go Go.Proofs.YtkihnmpjpbfiaaaDoor.Ev Go.Proofs
set_option maxRecDepth 100000

/-! ### Builder.copyCheck -/
def neSpec : FSpec := { foot := fun _ _ => [], run := fun av _ fid => match av with
  | [.p id 0] => ret fid (.p id 0)
  | _ => none }
theorem ne_ok : ExtOk Tryd.prog 42 neSpec := fun E η H D w fid av args r m hH h _ _ => by
  simp only [neSpec] at h
  split at h
  · rename_i id
    cases h
    simp only [MatL] at m
    obtain ⟨v, r, hv, m1, hr⟩ := m
    subst hr
    have ha : args = #[v] := by apply Array.ext'; rw [hv]
    subst ha
    refine ⟨v, w, ?_, η, .pure m1 rfl⟩
    rw [run_callFunc_extern Tryd.func42 (by kernel_rfl) (by kernel_rfl) (by kernel_rfl) (e := Extern.AbiNoEscape.same) (by kernel_rfl)]
    rfl
  · cases h
def sp1 : Specs := fun g => if g = 42 then some neSpec else none
theorem sp1_ok : SpecsOk Tryd.prog sp1 := fun g s h => by
  unfold sp1 at h
  split at h
  · rename_i e; cases h; subst e
    rw [if_neg (by decide)]
    exact .inr ne_ok
  · cases h
noncomputable def C1 : Ctx := { na := 1, P := Tryd.prog, sp := sp1, nm := false }
noncomputable def C2 : Ctx := { na := 2, P := Tryd.prog, sp := sp1, nm := false }

/-! ### A Builder, as a walk meets it -/
def bNil : List AB := [.cells (some 36) [.v (.pointer none), .v (.slice none 0 0)]]
def bRowN (l : List UInt8) (n : Nat) : List AB := [.cells (some 36) [.p 0 0, .s 1 1 (.l 0) (.e n)], .row (some 5) (.bytes l)]
def bRow (l : List UInt8) : List AB := bRowN l l.length
def bNil' : List AB := [.cells (some 36) [.p 0 0, .v (.slice none 0 0)]]

/-- What else comes in: read off the arguments; written as arguments. -/
structure Rest (β : Type) where
  rd : List AV → Option β
  wr : β → List AV
  ok : ∀ r b, rd r = some b → ∀ H ids, ArgsOk H ids r (wr b)
  fit : ∀ b n, fitL true n (wr b) = true

def nilSpec {β : Type} (rp : Rest β) (side : β → Prop) (val : β → AV) (hr : β → List AB) : FSpec := { foot := fun _ fid => List.range fid, run := fun av H fid => match av with
  | .p id 0 :: rest => match rp.rd rest with
    | some b => match H id with
      | .cells (some 36) [.v (.pointer none), .v (.slice none 0 0)] => some (outR (side b) (val b) (hr b) [id] fid)
      | _ => none
    | none => none
  | _ => none }

def rowSpec {β : Type} (rp : Rest β) (side : β → List UInt8 → Prop) (val : β → List UInt8 → AV) (hr : β → List UInt8 → List AB) : FSpec := { foot := fun _ fid => List.range fid, run := fun av H fid => match av with
  | .p id 0 :: rest => match rp.rd rest with
    | some b => match H id with
      | .cells (some 36) [.p id' 0, .s id2 1 (.l 0) (.e n)] => if id' = id ∧ id ≠ id2 then match H id2 with
          | .row (some 5) (.bytes l) => some (outR (n = l.length ∧ side b l) (val b l) (hr b l) [id, id2] fid)
          | _ => none
        else none
      | _ => none
    | none => none
  | _ => none }

theorem nil_contr {β : Type} {rp : Rest β} {side : β → Prop} {val : β → AV} {hr : β → List AB} (hfit : ∀ b, 1 ≤ (hr b).length ∧ (val b).fit false (hr b).length = true ∧ ∀ j, j < (hr b).length → ((hr b).getD j .gone).fit false (hr b).length = true) :
    Contr 1 (nilSpec rp side val hr) (fun b => .p 0 0 :: rp.wr b) (fun _ => bNil) side val hr where
  run := fun av H fid r h => by
    simp only [nilSpec] at h
    split at h
    case h_2 => cases h
    rename_i id rest
    split at h
    case h_2 => cases h
    rename_i b hb
    split at h
    case h_2 => cases h
    rename_i hc
    cases h
    refine ⟨b, [id], side b, rfl, by simp, rfl, fun hs => ⟨hs, argOk_same (b := .p 0 0), rp.ok _ _ hb _ _⟩, fun _ j hj => ?_⟩
    have : j = 0 := by simp at hj; exact hj
    subst this
    exact ⟨AB.wk_eq (within_eq hc rfl ▸ rfl), rfl⟩
  fitA := fun b => ⟨by simp [fitL, AV.fit, rp.fit], rfl, fun j hj => by
    have : j = 0 := by omega
    subst this; rfl⟩
  fitR := hfit

theorem row_contr {β : Type} {rp : Rest β} {side : β → List UInt8 → Prop} {val : β → List UInt8 → AV} {hr : β → List UInt8 → List AB}
    (hfit : ∀ b l, 2 ≤ (hr b l).length ∧ (val b l).fit false (hr b l).length = true ∧ ∀ j, j < (hr b l).length → ((hr b l).getD j .gone).fit false (hr b l).length = true) :
    Contr 2 (rowSpec rp side val hr) (fun x : β × List UInt8 × Nat => .p 0 0 :: rp.wr x.1) (fun x => bRowN x.2.1 x.2.2) (fun x => x.2.2 = x.2.1.length ∧ side x.1 x.2.1) (fun x => val x.1 x.2.1) (fun x => hr x.1 x.2.1) where
  run := fun av H fid r h => by
    simp only [rowSpec] at h
    split at h
    case h_2 => cases h
    rename_i id rest
    split at h
    case h_2 => cases h
    rename_i b hb
    split at h
    case h_2 => cases h
    rename_i id' id2 n hc
    split at h
    case isFalse => cases h
    rename_i hid
    obtain ⟨rfl, hne⟩ := hid
    split at h
    case h_2 => cases h
    rename_i l hl
    cases h
    refine ⟨(b, l, n), [id', id2], n = l.length ∧ side b l, rfl, by simp [hne], rfl, fun hs => ⟨hs, argOk_same (b := .p 0 0), rp.ok _ _ hb _ _⟩, fun _ j hj => ?_⟩
    have : j = 0 ∨ j = 1 := by simp at hj; omega
    rcases this with rfl | rfl
    · exact ⟨AB.wk_eq (within_eq hc rfl ▸ rfl), rfl⟩
    · exact ⟨AB.wk_eq (within_eq hl rfl ▸ rfl), rfl⟩
  fitA := fun x => ⟨by simp [fitL, AV.fit, rp.fit], rfl, fun j hj => by
    have : j = 0 ∨ j = 1 := by omega
    rcases this with rfl | rfl <;> rfl⟩
  fitR := fun x => hfit x.1 x.2.1

/-- One contract or the other. -/
def orSpec (s t : FSpec) : FSpec := { foot := s.foot, run := fun av H fid => match s.run av H fid with
  | some r => some r
  | none => t.run av H fid }
theorem or_ok {P : Program} {g : FuncId} {s t : FSpec} (h1 : SpecOk P g s) (h2 : SpecOk P g t) (hf : s.foot = t.foot) : SpecOk P g (orSpec s t) := by
  intro E η H D w fid av args r m hH h hN hs
  simp only [orSpec] at h
  split at h
  · rename_i r' hr
    cases h
    exact h1 E η H D w fid av args r m hH hr hN hs
  · rw [hf] at h
    exact h2 E η H D w fid av args r m hH h hN hs

def noRest : Rest Unit where
  rd := fun | [] => some () | _ => none
  wr := fun _ => []
  ok := fun r b h H ids => by
    split at h
    · trivial
    · cases h
  fit := fun _ _ => rfl

theorem cc_nil_vc  : (awp C1 how0 (bodyOf Tryd.f33) ⟨[.p 0 0] ++ List.replicate 19 .u, bNil, []⟩ (finA C1.P Tryd.f33 1 (.t []) bNil')) =
    (True ∧ True ∧ True ∧ True ∧ True ∧ True ∧ True ∧ True ∧ True ∧ True ∧ True ∧ True ∧ True ∧ (True ∧ True ∧ True) ∧ True ∧ (True ∧ Go.Value.slice Option.none (0 : Nat) (0 : Nat) = Go.Value.slice Option.none (0 : Nat) (0 : Nat) ∧ True) ∧ True) := by kernel_rfl

theorem cc_row_vc  (l : List UInt8) (n : Nat) : (awp C2 how0 (bodyOf Tryd.f33) ⟨[.p 0 0] ++ List.replicate 19 .u, bRowN l n, []⟩ (finA C2.P Tryd.f33 2 (.t []) (bRow l))) =
    (True ∧ True ∧ True ∧ True ∧ True ∧ True ∧ True ∧ True ∧ True ∧ True ∧ True ∧ (True ∧ True ∧ True ∧ True) ∧ True ∧ (True ∧ ((0 : Nat) = (0 : Nat) ∧ n = List.length l) ∧ True) ∧ Go.Proofs.YtkihnmpjpbfiaaaDoor.Ev.RC.bytes l = Go.Proofs.YtkihnmpjpbfiaaaDoor.Ev.RC.bytes l ∧ True) := by kernel_rfl

theorem cc_nil_ok : SpecOk Tryd.prog 33 (nilSpec noRest (fun _ => True) (fun _ => .t []) (fun _ => bNil')) :=
  specOk_of_awp (C := C1) (fn := Tryd.f33) (c := bodyOf Tryd.f33) Tryd.func33 (by rfl) (nil_contr fun _ => ⟨by decide, rfl, fun j hj => by
    have : j = 0 := by simp [bNil'] at hj; exact hj
    subst this; rfl⟩) sp1_ok mixed (how := fun _ => how0) (fun _ _ => by
      show awp C1 how0 (bodyOf Tryd.f33) ⟨[.p 0 0] ++ List.replicate 19 .u, bNil, []⟩ (finA C1.P Tryd.f33 1 (.t []) bNil')
      rw [cc_nil_vc]; simp)
theorem two_fit {hr : List AB} (h : hr.length = 2) (h0 : (hr.getD 0 .gone).fit false 2 = true) (h1 : (hr.getD 1 .gone).fit false 2 = true) : ∀ j, j < hr.length → (hr.getD j .gone).fit false hr.length = true := by
  intro j hj
  rw [h] at hj ⊢
  have : j = 0 ∨ j = 1 := by omega
  rcases this with rfl | rfl
  · exact h0
  · exact h1
theorem bRow_fit (l : List UInt8) (n : Nat) : ∀ j, j < (bRowN l n).length → ((bRowN l n).getD j .gone).fit false (bRowN l n).length = true := two_fit rfl rfl rfl
theorem cc_row_ok : SpecOk Tryd.prog 33 (rowSpec noRest (fun _ _ => True) (fun _ _ => .t []) (fun _ l => bRow l)) :=
  specOk_of_awp (C := C2) (fn := Tryd.f33) (c := bodyOf Tryd.f33) Tryd.func33 (by rfl) (row_contr fun _ l => ⟨Nat.le_refl _, rfl, bRow_fit l _⟩) sp1_ok mixed (how := fun _ => how0) (fun x hx => by
      show awp C2 how0 (bodyOf Tryd.f33) ⟨[.p 0 0] ++ List.replicate 19 .u, bRowN x.2.1 x.2.2, []⟩ (finA C2.P Tryd.f33 2 (.t []) (bRow x.2.1))
      rw [cc_row_vc]; simp [hx.1])
def ccSpec : FSpec := orSpec (nilSpec noRest (fun _ => True) (fun _ => .t []) (fun _ => bNil')) (rowSpec noRest (fun _ _ => True) (fun _ _ => .t []) (fun _ l => bRow l))
theorem cc_ok : SpecOk Tryd.prog 33 ccSpec := or_ok cc_nil_ok cc_row_ok rfl

end Go.Proofs.YtkihnmpjpbfiaaaDoor.Mine
