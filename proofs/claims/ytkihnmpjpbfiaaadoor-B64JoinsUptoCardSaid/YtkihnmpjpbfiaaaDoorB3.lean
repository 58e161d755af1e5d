/- The contracts of the Builder's methods WriteByte, WriteString, Len, String. -/
import Derived.Test.YtkihnmpjpbfiaaaDoorB2
set_option linter.unusedVariables false
set_option linter.unusedSimpArgs false
namespace Go.Proofs.YtkihnmpjpbfiaaaDoor.Mine
open Go Go.Proofs.YtkihnmpjpbfiaaaDoor.Ev Go.Proofs
set_option maxRecDepth 100000

def sp2 : Specs := fun g => if g = 42 then some neSpec else if g = 33 then some ccSpec else none
theorem sp2_ok : SpecsOk Tryd.prog sp2 := fun g s h => by
  unfold sp2 at h
  split at h
  · rename_i e; cases h; subst e
    rw [if_neg (by decide)]
    exact .inr ne_ok
  · split at h
    · rename_i e; cases h; subst e
      rw [if_neg (by decide)]
      exact .inl ⟨cc_ok, _, _, Tryd.func33, rfl, by kernel_rfl⟩
    · cases h
noncomputable def D1 : Ctx := { na := 1, P := Tryd.prog, sp := sp2, nm := false }
noncomputable def D2 : Ctx := { na := 2, P := Tryd.prog, sp := sp2, nm := false }

def byteOf (c : Int) : UInt8 := UInt8.ofNat c.toNat
def u8Rest : Rest Int where
  rd := fun r => match r with
    | [a] => match avInt? a with
      | some (.u8, c) => some c
      | _ => none
    | _ => none
  wr := fun c => [.i .u8 c]
  ok := fun r b h H ids => by
    split at h
    · split at h
      · rename_i hc; cases h; exact ⟨argOk_int hc, trivial⟩
      · cases h
    · cases h
  fit := fun _ _ => rfl
def strRest : Rest ByteArray where
  rd := fun r => match r with
    | [.str s] => some s
    | _ => none
  wr := fun s => [.str s]
  ok := fun r b h H ids => by
    split at h
    · cases h; exact ⟨argOk_same (b := .str b), trivial⟩
    · cases h
  fit := fun _ _ => rfl

/-- A Builder whose bytes lie in a new row. -/
def bNew (l : List UInt8) : List AB := [.cells (some 36) [.p 0 0, .s 1 1 (.l 0) (.e l.length)], .row (some 5) (.bytes l)]
def bMoved (l : List UInt8) : List AB := [.cells (some 36) [.p 0 0, .s 2 1 (.l 0) (.e l.length)], .gone, .row (some 5) (.bytes l)]
def bRead (l : List UInt8) : List AB := [.cells (some 36) [.p 0 0, .s 1 1 (.l 0) (.e l.length)], .gone]
def okN : Nat := 140737488355328

theorem wb_nil_vc  (c : Int) : (awp D1 how0 (bodyOf Tryd.f23) ⟨[.p 0 0, .i .u8 c] ++ List.replicate 15 .u, bNil, []⟩ (finA D1.P Tryd.f23 1 (.v .nilIface) (bNew [byteOf c]))) =
    (True ∧ True ∧ True ∧ True ∧ True ∧ True ∧ True ∧ True ∧ True ∧ True ∧ ((((0 : Int) ≤ c ∧ c < (256 : Int)) ∧ True) ∧ (1 : Nat) ≤ (140737488355328 : Nat)) ∧ True ∧ True ∧ True ∧ True ∧ (Go.Value.nilIface = Go.Value.nilIface ∧ True ∧ True) ∧ True ∧ (True ∧ ((0 : Nat) = (0 : Nat) ∧ (1 : Nat) = (1 : Nat)) ∧ True) ∧ Go.Proofs.YtkihnmpjpbfiaaaDoor.Ev.RC.bytes [UInt8.ofNat (Int.toNat c)] = Go.Proofs.YtkihnmpjpbfiaaaDoor.Ev.RC.bytes [Go.Proofs.YtkihnmpjpbfiaaaDoor.Mine.byteOf c] ∧ True) := by kernel_rfl

theorem wb_row_vc  (c : Int) (l : List UInt8) (n : Nat) : (awp D2 how0 (bodyOf Tryd.f23) ⟨[.p 0 0, .i .u8 c] ++ List.replicate 15 .u, bRowN l n, []⟩ (finA D2.P Tryd.f23 2 (.v .nilIface) (bMoved (l ++ [byteOf c])))) =
    (True ∧ True ∧ (n = List.length l ∧ True) ∧ True ∧ True ∧ True ∧ True ∧ True ∧ True ∧ True ∧ ((((0 : Int) ≤ c ∧ c < (256 : Int)) ∧ True) ∧ (0 : Nat) + List.length l = List.length l ∧ List.length (List.take (List.length l) (List.drop (0 : Nat) l) ++ [UInt8.ofNat (Int.toNat c)]) * (1 : Nat) ≤ (140737488355328 : Nat)) ∧ True ∧ True ∧ True ∧ True ∧ (Go.Value.nilIface = Go.Value.nilIface ∧ True ∧ True ∧ True) ∧ True ∧ (True ∧ ((0 : Nat) = (0 : Nat) ∧ List.length (List.take (List.length l) (List.drop (0 : Nat) l) ++ [UInt8.ofNat (Int.toNat c)]) = List.length (l ++ [Go.Proofs.YtkihnmpjpbfiaaaDoor.Mine.byteOf c])) ∧ True) ∧ Go.Proofs.YtkihnmpjpbfiaaaDoor.Ev.RC.bytes (List.take (List.length l) (List.drop (0 : Nat) l) ++ [UInt8.ofNat (Int.toNat c)]) = Go.Proofs.YtkihnmpjpbfiaaaDoor.Ev.RC.bytes (l ++ [Go.Proofs.YtkihnmpjpbfiaaaDoor.Mine.byteOf c]) ∧ True) := by kernel_rfl

theorem ws_row_vc  (s : ByteArray) (l : List UInt8) (n : Nat) : (awp D2 how0 (bodyOf Tryd.f25) ⟨[.p 0 0, .str s] ++ List.replicate 17 .u, bRowN l n, []⟩ (finA D2.P Tryd.f25 2 (.t [.i .i64 s.size, .v .nilIface]) (bMoved (l ++ s.data.toList)))) =
    (True ∧ True ∧ True ∧ (n = List.length l ∧ True) ∧ True ∧ True ∧ True ∧ True ∧ True ∧ True ∧ (True ∧ (0 : Nat) + List.length l = List.length l ∧ List.length (List.take (List.length l) (List.drop (0 : Nat) l) ++ Array.toList (ByteArray.data s)) * (1 : Nat) ≤ (140737488355328 : Nat)) ∧ True ∧ True ∧ True ∧ True ∧ True ∧ True ∧ True ∧ (((↑(ByteArray.size s) : Int) = (↑(ByteArray.size s) : Int) ∧ Go.Value.nilIface = Go.Value.nilIface ∧ True) ∧ True ∧ True ∧ True) ∧ True ∧ (True ∧ ((0 : Nat) = (0 : Nat) ∧ List.length (List.take (List.length l) (List.drop (0 : Nat) l) ++ Array.toList (ByteArray.data s)) = List.length (l ++ Array.toList (ByteArray.data s))) ∧ True) ∧ Go.Proofs.YtkihnmpjpbfiaaaDoor.Ev.RC.bytes (List.take (List.length l) (List.drop (0 : Nat) l) ++ Array.toList (ByteArray.data s)) = Go.Proofs.YtkihnmpjpbfiaaaDoor.Ev.RC.bytes (l ++ Array.toList (ByteArray.data s)) ∧ True) := by kernel_rfl

theorem len_nil_vc  : (awp D1 how0 (bodyOf Tryd.f24) ⟨[.p 0 0] ++ List.replicate 7 .u, bNil, []⟩ (finA D1.P Tryd.f24 1 (.n .i64 0) bNil)) =
    (True ∧ True ∧ True ∧ True ∧ True ∧ True ∧ True ∧ ((0 : Int) = (0 : Int) ∧ True ∧ True) ∧ True ∧ (Go.Value.pointer Option.none = Go.Value.pointer Option.none ∧ Go.Value.slice Option.none (0 : Nat) (0 : Nat) = Go.Value.slice Option.none (0 : Nat) (0 : Nat) ∧ True) ∧ True) := by kernel_rfl

theorem len_row_vc  (l : List UInt8) (n : Nat) : (awp D2 how0 (bodyOf Tryd.f24) ⟨[.p 0 0] ++ List.replicate 7 .u, bRowN l n, []⟩ (finA D2.P Tryd.f24 2 (.i .i64 l.length) (bRow l))) =
    (True ∧ True ∧ True ∧ True ∧ True ∧ True ∧ True ∧ ((↑n : Int) = (↑(List.length l) : Int) ∧ True ∧ True ∧ True) ∧ True ∧ (True ∧ ((0 : Nat) = (0 : Nat) ∧ n = List.length l) ∧ True) ∧ Go.Proofs.YtkihnmpjpbfiaaaDoor.Ev.RC.bytes l = Go.Proofs.YtkihnmpjpbfiaaaDoor.Ev.RC.bytes l ∧ True) := by kernel_rfl

theorem str_nil_vc  : (awp D1 how0 (bodyOf Tryd.f26) ⟨[.p 0 0] ++ List.replicate 13 .u, bNil, []⟩ (finA D1.P Tryd.f26 1 (.str .empty) bNil)) =
    (True ∧ True ∧ True ∧ True ∧ True ∧ True ∧ True ∧ True ∧ True ∧ True ∧ True ∧ True ∧ True ∧ Bool.true = Bool.true ∧ (ByteArray.empty = ByteArray.empty ∧ True ∧ True) ∧ True ∧ (Go.Value.pointer Option.none = Go.Value.pointer Option.none ∧ Go.Value.slice Option.none (0 : Nat) (0 : Nat) = Go.Value.slice Option.none (0 : Nat) (0 : Nat) ∧ True) ∧ True) := by kernel_rfl

theorem str_row_vc  (l : List UInt8) (n : Nat) : (awp D2 how0 (bodyOf Tryd.f26) ⟨[.p 0 0] ++ List.replicate 13 .u, bRowN l n, []⟩ (finA D2.P Tryd.f26 2 (.str ⟨l.toArray⟩) (bRead l))) =
    (True ∧ True ∧ True ∧ True ∧ True ∧ (0 : Nat) < n ∧ True ∧ True ∧ True ∧ True ∧ True ∧ ((0 : Nat) < n ∧ (↑n : Int) = (↑n : Int) ∧ n ≤ List.length l ∧ n ≤ (4611686018427387904 : Nat)) ∧ True ∧ Bool.true = Bool.true ∧ (ByteArray.mk (List.toArray (List.take n l)) = ByteArray.mk (List.toArray l) ∧ True ∧ True ∧ True) ∧ True ∧ (True ∧ ((0 : Nat) = (0 : Nat) ∧ n = List.length l) ∧ True) ∧ True) := by kernel_rfl

theorem one_fit {hr : List AB} (h : hr.length = 1) (h0 : (hr.getD 0 .gone).fit false 1 = true) : ∀ j, j < hr.length → (hr.getD j .gone).fit false hr.length = true := by
  intro j hj
  rw [h] at hj ⊢
  have : j = 0 := by omega
  subst this; exact h0
theorem three_fit {hr : List AB} (h : hr.length = 3) (h0 : (hr.getD 0 .gone).fit false 3 = true) (h1 : (hr.getD 1 .gone).fit false 3 = true) (h2 : (hr.getD 2 .gone).fit false 3 = true) : ∀ j, j < hr.length → (hr.getD j .gone).fit false hr.length = true := by
  intro j hj
  rw [h] at hj ⊢
  have : j = 0 ∨ j = 1 ∨ j = 2 := by omega
  rcases this with rfl | rfl | rfl
  · exact h0
  · exact h1
  · exact h2

def u8ok (c : Int) : Prop := 0 ≤ c ∧ c < 256
def wbNil : FSpec := nilSpec u8Rest (fun c => u8ok c) (fun _ => .v .nilIface) (fun c => bNew [byteOf c])
def wbRow : FSpec := rowSpec u8Rest (fun c l => u8ok c ∧ l.length + 1 ≤ okN) (fun _ _ => .v .nilIface) (fun c l => bMoved (l ++ [byteOf c]))
def wbSpec : FSpec := orSpec wbNil wbRow
theorem wb_nil_ok : SpecOk Tryd.prog 23 wbNil :=
  specOk_of_awp (C := D1) (fn := Tryd.f23) (c := bodyOf Tryd.f23) Tryd.func23 (by rfl) (nil_contr fun c => ⟨(by decide : 1 ≤ 2), rfl, two_fit rfl rfl rfl⟩) sp2_ok mixed (how := fun _ => how0) (fun c hc => by
      show awp D1 how0 (bodyOf Tryd.f23) ⟨[.p 0 0, .i .u8 c] ++ List.replicate 15 .u, bNil, []⟩ (finA D1.P Tryd.f23 1 (.v .nilIface) (bNew [byteOf c]))
      rw [wb_nil_vc]; have := hc.1; have := hc.2; simp [byteOf, *])
theorem wb_row_ok : SpecOk Tryd.prog 23 wbRow :=
  specOk_of_awp (C := D2) (fn := Tryd.f23) (c := bodyOf Tryd.f23) Tryd.func23 (by rfl) (row_contr fun c l => ⟨(by decide : 2 ≤ 3), rfl, three_fit rfl rfl rfl rfl⟩) sp2_ok mixed (how := fun _ => how0) (fun x hx => by
      obtain ⟨c, l, n⟩ := x
      obtain ⟨hn, ⟨hc1, hc2⟩, hl⟩ := hx
      simp only at hn hc1 hc2 hl
      show awp D2 how0 (bodyOf Tryd.f23) ⟨[.p 0 0, .i .u8 c] ++ List.replicate 15 .u, bRowN l n, []⟩ (finA D2.P Tryd.f23 2 (.v .nilIface) (bMoved (l ++ [byteOf c])))
      rw [wb_row_vc]; unfold okN at hl; simp [byteOf, *])
theorem wb_ok : SpecOk Tryd.prog 23 wbSpec := or_ok wb_nil_ok wb_row_ok rfl

def wsSpec : FSpec := rowSpec strRest (fun s l => l.length + s.size ≤ okN) (fun s _ => .t [.i .i64 s.size, .v .nilIface]) (fun s l => bMoved (l ++ s.data.toList))
theorem ws_ok : SpecOk Tryd.prog 25 wsSpec :=
  specOk_of_awp (C := D2) (fn := Tryd.f25) (c := bodyOf Tryd.f25) Tryd.func25 (by rfl) (row_contr fun c l => ⟨(by decide : 2 ≤ 3), rfl, three_fit rfl rfl rfl rfl⟩) sp2_ok mixed (how := fun _ => how0) (fun x hx => by
      obtain ⟨s, l, n⟩ := x
      obtain ⟨hn, hl⟩ := hx
      simp only at hn hl
      show awp D2 how0 (bodyOf Tryd.f25) ⟨[.p 0 0, .str s] ++ List.replicate 17 .u, bRowN l n, []⟩ (finA D2.P Tryd.f25 2 (.t [.i .i64 s.size, .v .nilIface]) (bMoved (l ++ s.data.toList)))
      rw [ws_row_vc]; unfold okN at hl; simp_all)

def lenSpec : FSpec := orSpec (nilSpec noRest (fun _ => True) (fun _ => .n .i64 0) (fun _ => bNil)) (rowSpec noRest (fun _ _ => True) (fun _ l => .i .i64 l.length) (fun _ l => bRow l))
theorem len_ok : SpecOk Tryd.prog 24 lenSpec := or_ok
  (specOk_of_awp (C := D1) (fn := Tryd.f24) (c := bodyOf Tryd.f24) Tryd.func24 (by rfl) (nil_contr fun _ => ⟨Nat.le_refl 1, rfl, one_fit rfl rfl⟩) sp2_ok mixed (how := fun _ => how0) (fun _ _ => by
      show awp D1 how0 (bodyOf Tryd.f24) ⟨[.p 0 0] ++ List.replicate 7 .u, bNil, []⟩ (finA D1.P Tryd.f24 1 (.n .i64 0) bNil)
      rw [len_nil_vc]; simp))
  (specOk_of_awp (C := D2) (fn := Tryd.f24) (c := bodyOf Tryd.f24) Tryd.func24 (by rfl) (row_contr fun _ l => ⟨Nat.le_refl 2, rfl, bRow_fit l _⟩) sp2_ok mixed (how := fun _ => how0) (fun x hx => by
      show awp D2 how0 (bodyOf Tryd.f24) ⟨[.p 0 0] ++ List.replicate 7 .u, bRowN x.2.1 x.2.2, []⟩ (finA D2.P Tryd.f24 2 (.i .i64 x.2.1.length) (bRow x.2.1))
      rw [len_row_vc]; simp [hx.1]))
  rfl

def strSpec : FSpec := orSpec (nilSpec noRest (fun _ => True) (fun _ => .str .empty) (fun _ => bNil)) (rowSpec noRest (fun _ l => 0 < l.length ∧ l.length ≤ 2 ^ 62) (fun _ l => .str ⟨l.toArray⟩) (fun _ l => bRead l))
theorem str_ok : SpecOk Tryd.prog 26 strSpec := or_ok
  (specOk_of_awp (C := D1) (fn := Tryd.f26) (c := bodyOf Tryd.f26) Tryd.func26 (by rfl) (nil_contr fun _ => ⟨Nat.le_refl 1, rfl, one_fit rfl rfl⟩) sp2_ok mixed (how := fun _ => how0) (fun _ _ => by
      show awp D1 how0 (bodyOf Tryd.f26) ⟨[.p 0 0] ++ List.replicate 13 .u, bNil, []⟩ (finA D1.P Tryd.f26 1 (.str .empty) bNil)
      rw [str_nil_vc]; simp))
  (specOk_of_awp (C := D2) (fn := Tryd.f26) (c := bodyOf Tryd.f26) Tryd.func26 (by rfl) (row_contr fun _ l => ⟨Nat.le_refl 2, rfl, two_fit rfl rfl rfl⟩) sp2_ok mixed (how := fun _ => how0) (fun x hx => by
      obtain ⟨u, l, n⟩ := x
      obtain ⟨hn, h1, h2⟩ := hx
      simp only at hn h1 h2
      show awp D2 how0 (bodyOf Tryd.f26) ⟨[.p 0 0] ++ List.replicate 13 .u, bRowN l n, []⟩ (finA D2.P Tryd.f26 2 (.str ⟨l.toArray⟩) (bRead l))
      rw [str_row_vc]; subst hn; simp_all))
  rfl

end Go.Proofs.YtkihnmpjpbfiaaaDoor.Mine
