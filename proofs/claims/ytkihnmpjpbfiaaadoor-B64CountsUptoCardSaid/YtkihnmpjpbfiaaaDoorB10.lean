/- The contracts of b64.Encode and b64.Hex. -/
import Derived.Test.YtkihnmpjpbfiaaaDoorB9E
import Derived.Test.YtkihnmpjpbfiaaaDoorB9H
set_option linter.unusedVariables false
set_option linter.unusedSimpArgs false
namespace Go.Proofs.YtkihnmpjpbfiaaaDoor.Mine
open Go Go.Proofs.YtkihnmpjpbfiaaaDoor.Ev Go.Proofs
set_option maxRecDepth 100000

/-! ### Encode and Hex -/
theorem outs_le (to n : Nat) : ∀ k h, (outs to n k h).length ≤ k
  | 0, _ => Nat.le_refl _
  | k + 1, h => by
    simp only [outs]
    split
    · simpa using outs_le to n k _
    · simp
theorem grp_le {to : Nat} (h0 : 0 < to) (h8 : to ≤ 8) : ∀ (l : List UInt8) (n h : Nat), h < to → (grp 8 to l n h).length ≤ 16 * l.length + 1
  | [], n, h, _ => by simp only [grp]; split <;> simp
  | b :: r, n, h, hh => by
    simp only [grp, List.length_append, List.length_cons]
    have h1 := outs_le to (n * 2 ^ 8 + b.toNat) (h + 8) (h + 8)
    have h2 := grp_le h0 h8 r ((n * 2 ^ 8 + b.toNat) % 2 ^ ((h + 8) % to)) ((h + 8) % to) (Nat.mod_lt _ h0)
    omega
theorem encL_le {to : Nat} {tb : ByteArray} {l : List UInt8} (h0 : 0 < to) (h8 : to ≤ 8) : (encL to tb l).length ≤ 16 * l.length + 1 := by
  unfold encL; rw [List.length_map]; exact grp_le h0 h8 l 0 0 h0
theorem encL_pos {to : Nat} {tb : ByteArray} {s : ByteArray} (h0 : 0 < to) (h8 : to ≤ 8) (h : 0 < s.size) : 0 < (encL to tb s.data.toList).length := by
  obtain ⟨b, _, hb⟩ := byte_at (s := s) (i := 0) h
  simp only [List.drop_zero] at hb
  unfold encL
  rw [hb, grp_cons, grest_step h0 (by omega)]
  simp
def padL (l : List UInt8) : List UInt8 := l ++ List.replicate ((4 - l.length % 4) % 4) 61
def encS (s : ByteArray) : ByteArray := ⟨(padL (encL 6 Enc.tb s.data.toList)).toArray⟩
def hexS (s : ByteArray) : ByteArray := ⟨(encL 4 Hx.tb s.data.toList).toArray⟩
theorem padL_step {l : List UInt8} (h : l.length % 4 ≠ 0) : padL (l ++ [61]) = padL l := by
  unfold padL
  rw [List.append_assoc]
  congr 1
  rw [List.length_append, List.length_singleton]
  have e : (4 - l.length % 4) % 4 = (4 - (l.length + 1) % 4) % 4 + 1 := by omega
  rw [e, List.replicate_succ]; rfl
theorem padL_done {l : List UInt8} (h : l.length % 4 = 0) : padL l = l := by
  unfold padL; simp [h]

inductive EncR (s : ByteArray) (l : List UInt8) : Prop where
  | mk (h1 : padL l = padL (encL 6 Enc.tb s.data.toList)) (h2 : 0 < l.length) (h3 : l.length ≤ 2 ^ 45 - (4 - l.length % 4) % 4)
def encInv (s : ByteArray) : LInv := { σ := List UInt8, st := fun l => ⟨only 16 3 (.p 0 0), [.cells (some 36) [.p 0 0, .s 1 1 (.l 0) (.e l.length)], .row (some 5) (.bytes l), .df], [.p 2 0]⟩, m := fun l => (4 - l.length % 4) % 4, rel := fun _ l => EncR s l }
def howEnc (s : ByteArray) : Nat → How := fun _ => .inv (encInv s)

noncomputable def lEN : List (FuncId × FSpec) := [(22, gSpec), (32, Enc.gRun Enc.sideN Enc.hrN), (24, lenSpec), (25, wsSpec), (26, strSpec)]
noncomputable def lEZ : List (FuncId × FSpec) := [(22, gSpec), (32, Enc.gRun Enc.sideZ Enc.hrZ), (24, lenSpec), (25, wsSpec), (26, strSpec)]
noncomputable def lHN : List (FuncId × FSpec) := [(22, gSpec), (32, Hx.gRun Hx.sideN Hx.hrN), (26, strSpec)]
noncomputable def lHZ : List (FuncId × FSpec) := [(22, gSpec), (32, Hx.gRun Hx.sideZ Hx.hrZ), (26, strSpec)]
theorem lEN_ok : AllOk Tryd.prog lEN := ⟨⟨by decide, fok groups_ok Tryd.func22 rfl (by kernel_rfl)⟩, ⟨by decide, fok Enc.gN_ok Tryd.func32 rfl (by kernel_rfl)⟩, ⟨by decide, fok len_ok Tryd.func24 rfl (by kernel_rfl)⟩, ⟨by decide, fok ws_ok Tryd.func25 rfl (by kernel_rfl)⟩, ⟨by decide, fok str_ok Tryd.func26 rfl (by kernel_rfl)⟩, trivial⟩
theorem lEZ_ok : AllOk Tryd.prog lEZ := ⟨⟨by decide, fok groups_ok Tryd.func22 rfl (by kernel_rfl)⟩, ⟨by decide, fok Enc.gZ_ok Tryd.func32 rfl (by kernel_rfl)⟩, ⟨by decide, fok len_ok Tryd.func24 rfl (by kernel_rfl)⟩, ⟨by decide, fok ws_ok Tryd.func25 rfl (by kernel_rfl)⟩, ⟨by decide, fok str_ok Tryd.func26 rfl (by kernel_rfl)⟩, trivial⟩
theorem lHN_ok : AllOk Tryd.prog lHN := ⟨⟨by decide, fok groups_ok Tryd.func22 rfl (by kernel_rfl)⟩, ⟨by decide, fok Hx.gN_ok Tryd.func32 rfl (by kernel_rfl)⟩, ⟨by decide, fok str_ok Tryd.func26 rfl (by kernel_rfl)⟩, trivial⟩
theorem lHZ_ok : AllOk Tryd.prog lHZ := ⟨⟨by decide, fok groups_ok Tryd.func22 rfl (by kernel_rfl)⟩, ⟨by decide, fok Hx.gZ_ok Tryd.func32 rfl (by kernel_rfl)⟩, ⟨by decide, fok str_ok Tryd.func26 rfl (by kernel_rfl)⟩, trivial⟩
noncomputable def CEN : Ctx := { P := Tryd.prog, sp := spOf lEN, nm := false }
noncomputable def CEZ : Ctx := { P := Tryd.prog, sp := spOf lEZ, nm := false }
noncomputable def CHN : Ctx := { P := Tryd.prog, sp := spOf lHN, nm := false }
noncomputable def CHZ : Ctx := { P := Tryd.prog, sp := spOf lHZ, nm := false }

theorem en_vc  (s : ByteArray) : (awp CEN (howEnc s) (bodyOf Tryd.f10) ⟨[.str s] ++ List.replicate 15 .u, [], []⟩ (finA CEN.P Tryd.f10 0 (.str (encS s)) [])) =
    (True ∧ True ∧ True ∧ True ∧ (Go.Proofs.YtkihnmpjpbfiaaaDoor.Ev.LKey.mk #[(7 : Nat)] (Go.Code.region (3 : Nat) #[Go.Oper.mk (Option.some (4 : Nat)) (Go.Op.assign (Go.Operand.tmp (7 : Nat))) (3 : Nat) "b64.go:39" #[] Option.none] Bool.false) (Go.Code.block (1 : Nat) (Go.Code.region (4 : Nat) #[Go.Oper.mk (Option.some (8 : Nat)) (Go.Op.move (Go.Operand.tmp (4 : Nat))) (3 : Nat) "b64.go:40" #[] Option.none, Go.Oper.mk (Option.some (9 : Nat)) (Go.Op.index (9 : Nat) (Go.Operand.const (Go.Value.string (ByteArray.mk #[(65 : UInt8), (66 : UInt8), (67 : UInt8), (68 : UInt8), (69 : UInt8), (70 : UInt8), (71 : UInt8), (72 : UInt8), (73 : UInt8), (74 : UInt8), (75 : UInt8), (76 : UInt8), (77 : UInt8), (78 : UInt8), (79 : UInt8), (80 : UInt8), (81 : UInt8), (82 : UInt8), (83 : UInt8), (84 : UInt8), (85 : UInt8), (86 : UInt8), (87 : UInt8), (88 : UInt8), (89 : UInt8), (90 : UInt8), (97 : UInt8), (98 : UInt8), (99 : UInt8), (100 : UInt8), (101 : UInt8), (102 : UInt8), (103 : UInt8), (104 : UInt8), (105 : UInt8), (106 : UInt8), (107 : UInt8), (108 : UInt8), (109 : UInt8), (110 : UInt8), (111 : UInt8), (112 : UInt8), (113 : UInt8), (114 : UInt8), (115 : UInt8), (116 : UInt8), (117 : UInt8), (118 : UInt8), (119 : UInt8), (120 : UInt8), (121 : UInt8), (122 : UInt8), (48 : UInt8), (49 : UInt8), (50 : UInt8), (51 : UInt8), (52 : UInt8), (53 : UInt8), (54 : UInt8), (55 : UInt8), (56 : UInt8), (57 : UInt8), (43 : UInt8), (47 : UInt8)]))) (Go.Operand.tmp (8 : Nat))) (5 : Nat) "b64.go:40" #[Go.Edge.mk (0 : Nat) Go.Ground.data] Option.none, Go.Oper.mk (Option.some (10 : Nat)) (Go.Op.call (Go.Call.mk (Go.Callee.value (Go.Operand.func (23 : Nat))) #[Go.Operand.tmp (3 : Nat), Go.Operand.tmp (9 : Nat)] #[(36 : Nat), (5 : Nat)])) (41 : Nat) "b64.go:40" #[Go.Edge.mk (1 : Nat) Go.Ground.data] Option.none] Bool.false)) = Go.Proofs.YtkihnmpjpbfiaaaDoor.Ev.LKey.mk #[(7 : Nat)] (Go.Code.region (3 : Nat) #[Go.Oper.mk (Option.some (4 : Nat)) (Go.Op.assign (Go.Operand.tmp (7 : Nat))) (3 : Nat) "b64.go:39" #[] Option.none] Bool.false) (Go.Code.block (1 : Nat) (Go.Code.region (4 : Nat) #[Go.Oper.mk (Option.some (8 : Nat)) (Go.Op.move (Go.Operand.tmp (4 : Nat))) (3 : Nat) "b64.go:40" #[] Option.none, Go.Oper.mk (Option.some (9 : Nat)) (Go.Op.index (9 : Nat) (Go.Operand.const (Go.Value.string (ByteArray.mk #[(65 : UInt8), (66 : UInt8), (67 : UInt8), (68 : UInt8), (69 : UInt8), (70 : UInt8), (71 : UInt8), (72 : UInt8), (73 : UInt8), (74 : UInt8), (75 : UInt8), (76 : UInt8), (77 : UInt8), (78 : UInt8), (79 : UInt8), (80 : UInt8), (81 : UInt8), (82 : UInt8), (83 : UInt8), (84 : UInt8), (85 : UInt8), (86 : UInt8), (87 : UInt8), (88 : UInt8), (89 : UInt8), (90 : UInt8), (97 : UInt8), (98 : UInt8), (99 : UInt8), (100 : UInt8), (101 : UInt8), (102 : UInt8), (103 : UInt8), (104 : UInt8), (105 : UInt8), (106 : UInt8), (107 : UInt8), (108 : UInt8), (109 : UInt8), (110 : UInt8), (111 : UInt8), (112 : UInt8), (113 : UInt8), (114 : UInt8), (115 : UInt8), (116 : UInt8), (117 : UInt8), (118 : UInt8), (119 : UInt8), (120 : UInt8), (121 : UInt8), (122 : UInt8), (48 : UInt8), (49 : UInt8), (50 : UInt8), (51 : UInt8), (52 : UInt8), (53 : UInt8), (54 : UInt8), (55 : UInt8), (56 : UInt8), (57 : UInt8), (43 : UInt8), (47 : UInt8)]))) (Go.Operand.tmp (8 : Nat))) (5 : Nat) "b64.go:40" #[Go.Edge.mk (0 : Nat) Go.Ground.data] Option.none, Go.Oper.mk (Option.some (10 : Nat)) (Go.Op.call (Go.Call.mk (Go.Callee.value (Go.Operand.func (23 : Nat))) #[Go.Operand.tmp (3 : Nat), Go.Operand.tmp (9 : Nat)] #[(36 : Nat), (5 : Nat)])) (41 : Nat) "b64.go:40" #[Go.Edge.mk (1 : Nat) Go.Ground.data] Option.none] Bool.false)) ∧ Go.Proofs.YtkihnmpjpbfiaaaDoor.Mine.Enc.sideN (Go.Proofs.YtkihnmpjpbfiaaaDoor.Mine.GIn.s (Go.Proofs.YtkihnmpjpbfiaaaDoor.Mine.GIn.mk s (8 : Int) (6 : Int)))) ∧ ∃ (x0 : List UInt8), Go.Proofs.YtkihnmpjpbfiaaaDoor.Mine.EncR s x0 ∧ ((True ∧ True ∧ True ∧ True ∧ True ∧ True ∧ True ∧ True ∧ True ∧ True ∧ True ∧ True ∧ True ∧ True ∧ True ∧ True ∧ True) ∧ (True ∧ True) ∧ (True ∧ ((0 : Nat) = (0 : Nat) ∧ List.length (Go.Proofs.YtkihnmpjpbfiaaaDoor.Mine.encL (6 : Nat) Go.Proofs.YtkihnmpjpbfiaaaDoor.Mine.Enc.tb (Array.toList (ByteArray.data (Go.Proofs.YtkihnmpjpbfiaaaDoor.Mine.GIn.s (Go.Proofs.YtkihnmpjpbfiaaaDoor.Mine.GIn.mk s (8 : Int) (6 : Int)))))) = List.length x0) ∧ True) ∧ Go.Proofs.YtkihnmpjpbfiaaaDoor.Ev.RC.bytes (Go.Proofs.YtkihnmpjpbfiaaaDoor.Mine.encL (6 : Nat) Go.Proofs.YtkihnmpjpbfiaaaDoor.Mine.Enc.tb (Array.toList (ByteArray.data (Go.Proofs.YtkihnmpjpbfiaaaDoor.Mine.GIn.s (Go.Proofs.YtkihnmpjpbfiaaaDoor.Mine.GIn.mk s (8 : Int) (6 : Int)))))) = Go.Proofs.YtkihnmpjpbfiaaaDoor.Ev.RC.bytes x0 ∧ True) ∧ ∀ (y : List UInt8), Go.Proofs.YtkihnmpjpbfiaaaDoor.Mine.EncR s y → (List.length y = List.length y ∧ True) ∧ True ∧ True ∧ ((Int.tmod (↑(List.length y) : Int) (4 : Int) != (0 : Int)) = Bool.true → (List.length y = List.length y ∧ List.length y + (1 : Nat) ≤ (140737488355328 : Nat)) ∧ ∃ (y' : List UInt8), ((4 : Nat) - List.length y' % (4 : Nat)) % (4 : Nat) < ((4 : Nat) - List.length y % (4 : Nat)) % (4 : Nat) ∧ Go.Proofs.YtkihnmpjpbfiaaaDoor.Mine.EncR s y' ∧ (True ∧ True ∧ True ∧ True ∧ True ∧ True ∧ True ∧ True ∧ True ∧ True ∧ True ∧ True ∧ True ∧ True ∧ True ∧ True ∧ True) ∧ (True ∧ True) ∧ (True ∧ ((0 : Nat) = (0 : Nat) ∧ List.length (y ++ [(61 : UInt8)]) = List.length y') ∧ True) ∧ Go.Proofs.YtkihnmpjpbfiaaaDoor.Ev.RC.bytes (y ++ [(61 : UInt8)]) = Go.Proofs.YtkihnmpjpbfiaaaDoor.Ev.RC.bytes y' ∧ True) ∧ ((Int.tmod (↑(List.length y) : Int) (4 : Int) != (0 : Int)) = Bool.false → (List.length y = List.length y ∧ (0 : Nat) < List.length y ∧ List.length y ≤ (4611686018427387904 : Nat)) ∧ True ∧ (ByteArray.mk (List.toArray y) = Go.Proofs.YtkihnmpjpbfiaaaDoor.Mine.encS s ∧ True) ∧ True ∧ True)) := by kernel_rfl

theorem ez_vc  (s : ByteArray) : (awp CEZ how0 (bodyOf Tryd.f10) ⟨[.str s] ++ List.replicate 15 .u, [], []⟩ (finA CEZ.P Tryd.f10 0 (.str (encS s)) [])) =
    (True ∧ True ∧ True ∧ True ∧ (Go.Proofs.YtkihnmpjpbfiaaaDoor.Ev.LKey.mk #[(7 : Nat)] (Go.Code.region (3 : Nat) #[Go.Oper.mk (Option.some (4 : Nat)) (Go.Op.assign (Go.Operand.tmp (7 : Nat))) (3 : Nat) "b64.go:39" #[] Option.none] Bool.false) (Go.Code.block (1 : Nat) (Go.Code.region (4 : Nat) #[Go.Oper.mk (Option.some (8 : Nat)) (Go.Op.move (Go.Operand.tmp (4 : Nat))) (3 : Nat) "b64.go:40" #[] Option.none, Go.Oper.mk (Option.some (9 : Nat)) (Go.Op.index (9 : Nat) (Go.Operand.const (Go.Value.string (ByteArray.mk #[(65 : UInt8), (66 : UInt8), (67 : UInt8), (68 : UInt8), (69 : UInt8), (70 : UInt8), (71 : UInt8), (72 : UInt8), (73 : UInt8), (74 : UInt8), (75 : UInt8), (76 : UInt8), (77 : UInt8), (78 : UInt8), (79 : UInt8), (80 : UInt8), (81 : UInt8), (82 : UInt8), (83 : UInt8), (84 : UInt8), (85 : UInt8), (86 : UInt8), (87 : UInt8), (88 : UInt8), (89 : UInt8), (90 : UInt8), (97 : UInt8), (98 : UInt8), (99 : UInt8), (100 : UInt8), (101 : UInt8), (102 : UInt8), (103 : UInt8), (104 : UInt8), (105 : UInt8), (106 : UInt8), (107 : UInt8), (108 : UInt8), (109 : UInt8), (110 : UInt8), (111 : UInt8), (112 : UInt8), (113 : UInt8), (114 : UInt8), (115 : UInt8), (116 : UInt8), (117 : UInt8), (118 : UInt8), (119 : UInt8), (120 : UInt8), (121 : UInt8), (122 : UInt8), (48 : UInt8), (49 : UInt8), (50 : UInt8), (51 : UInt8), (52 : UInt8), (53 : UInt8), (54 : UInt8), (55 : UInt8), (56 : UInt8), (57 : UInt8), (43 : UInt8), (47 : UInt8)]))) (Go.Operand.tmp (8 : Nat))) (5 : Nat) "b64.go:40" #[Go.Edge.mk (0 : Nat) Go.Ground.data] Option.none, Go.Oper.mk (Option.some (10 : Nat)) (Go.Op.call (Go.Call.mk (Go.Callee.value (Go.Operand.func (23 : Nat))) #[Go.Operand.tmp (3 : Nat), Go.Operand.tmp (9 : Nat)] #[(36 : Nat), (5 : Nat)])) (41 : Nat) "b64.go:40" #[Go.Edge.mk (1 : Nat) Go.Ground.data] Option.none] Bool.false)) = Go.Proofs.YtkihnmpjpbfiaaaDoor.Ev.LKey.mk #[(7 : Nat)] (Go.Code.region (3 : Nat) #[Go.Oper.mk (Option.some (4 : Nat)) (Go.Op.assign (Go.Operand.tmp (7 : Nat))) (3 : Nat) "b64.go:39" #[] Option.none] Bool.false) (Go.Code.block (1 : Nat) (Go.Code.region (4 : Nat) #[Go.Oper.mk (Option.some (8 : Nat)) (Go.Op.move (Go.Operand.tmp (4 : Nat))) (3 : Nat) "b64.go:40" #[] Option.none, Go.Oper.mk (Option.some (9 : Nat)) (Go.Op.index (9 : Nat) (Go.Operand.const (Go.Value.string (ByteArray.mk #[(65 : UInt8), (66 : UInt8), (67 : UInt8), (68 : UInt8), (69 : UInt8), (70 : UInt8), (71 : UInt8), (72 : UInt8), (73 : UInt8), (74 : UInt8), (75 : UInt8), (76 : UInt8), (77 : UInt8), (78 : UInt8), (79 : UInt8), (80 : UInt8), (81 : UInt8), (82 : UInt8), (83 : UInt8), (84 : UInt8), (85 : UInt8), (86 : UInt8), (87 : UInt8), (88 : UInt8), (89 : UInt8), (90 : UInt8), (97 : UInt8), (98 : UInt8), (99 : UInt8), (100 : UInt8), (101 : UInt8), (102 : UInt8), (103 : UInt8), (104 : UInt8), (105 : UInt8), (106 : UInt8), (107 : UInt8), (108 : UInt8), (109 : UInt8), (110 : UInt8), (111 : UInt8), (112 : UInt8), (113 : UInt8), (114 : UInt8), (115 : UInt8), (116 : UInt8), (117 : UInt8), (118 : UInt8), (119 : UInt8), (120 : UInt8), (121 : UInt8), (122 : UInt8), (48 : UInt8), (49 : UInt8), (50 : UInt8), (51 : UInt8), (52 : UInt8), (53 : UInt8), (54 : UInt8), (55 : UInt8), (56 : UInt8), (57 : UInt8), (43 : UInt8), (47 : UInt8)]))) (Go.Operand.tmp (8 : Nat))) (5 : Nat) "b64.go:40" #[Go.Edge.mk (0 : Nat) Go.Ground.data] Option.none, Go.Oper.mk (Option.some (10 : Nat)) (Go.Op.call (Go.Call.mk (Go.Callee.value (Go.Operand.func (23 : Nat))) #[Go.Operand.tmp (3 : Nat), Go.Operand.tmp (9 : Nat)] #[(36 : Nat), (5 : Nat)])) (41 : Nat) "b64.go:40" #[Go.Edge.mk (1 : Nat) Go.Ground.data] Option.none] Bool.false)) ∧ Go.Proofs.YtkihnmpjpbfiaaaDoor.Mine.Enc.sideZ (Go.Proofs.YtkihnmpjpbfiaaaDoor.Mine.GIn.s (Go.Proofs.YtkihnmpjpbfiaaaDoor.Mine.GIn.mk s (8 : Int) (6 : Int)))) ∧ True ∧ True ∧ True ∧ True ∧ True ∧ (ByteArray.empty = Go.Proofs.YtkihnmpjpbfiaaaDoor.Mine.encS s ∧ True) ∧ True ∧ True) := by kernel_rfl

theorem hn_vc  (s : ByteArray) : (awp CHN how0 (bodyOf Tryd.f11) ⟨[.str s] ++ List.replicate 11 .u, [], []⟩ (finA CHN.P Tryd.f11 0 (.str (hexS s)) [])) =
    (True ∧ True ∧ True ∧ True ∧ (Go.Proofs.YtkihnmpjpbfiaaaDoor.Ev.LKey.mk #[(7 : Nat)] (Go.Code.region (3 : Nat) #[Go.Oper.mk (Option.some (4 : Nat)) (Go.Op.assign (Go.Operand.tmp (7 : Nat))) (3 : Nat) "b64.go:104" #[] Option.none] Bool.false) (Go.Code.block (1 : Nat) (Go.Code.region (4 : Nat) #[Go.Oper.mk (Option.some (8 : Nat)) (Go.Op.move (Go.Operand.tmp (4 : Nat))) (3 : Nat) "b64.go:105" #[] Option.none, Go.Oper.mk (Option.some (9 : Nat)) (Go.Op.index (9 : Nat) (Go.Operand.const (Go.Value.string (ByteArray.mk #[(48 : UInt8), (49 : UInt8), (50 : UInt8), (51 : UInt8), (52 : UInt8), (53 : UInt8), (54 : UInt8), (55 : UInt8), (56 : UInt8), (57 : UInt8), (97 : UInt8), (98 : UInt8), (99 : UInt8), (100 : UInt8), (101 : UInt8), (102 : UInt8)]))) (Go.Operand.tmp (8 : Nat))) (5 : Nat) "b64.go:105" #[Go.Edge.mk (0 : Nat) Go.Ground.data] Option.none, Go.Oper.mk (Option.some (10 : Nat)) (Go.Op.call (Go.Call.mk (Go.Callee.value (Go.Operand.func (23 : Nat))) #[Go.Operand.tmp (3 : Nat), Go.Operand.tmp (9 : Nat)] #[(36 : Nat), (5 : Nat)])) (41 : Nat) "b64.go:105" #[Go.Edge.mk (1 : Nat) Go.Ground.data] Option.none] Bool.false)) = Go.Proofs.YtkihnmpjpbfiaaaDoor.Ev.LKey.mk #[(7 : Nat)] (Go.Code.region (3 : Nat) #[Go.Oper.mk (Option.some (4 : Nat)) (Go.Op.assign (Go.Operand.tmp (7 : Nat))) (3 : Nat) "b64.go:104" #[] Option.none] Bool.false) (Go.Code.block (1 : Nat) (Go.Code.region (4 : Nat) #[Go.Oper.mk (Option.some (8 : Nat)) (Go.Op.move (Go.Operand.tmp (4 : Nat))) (3 : Nat) "b64.go:105" #[] Option.none, Go.Oper.mk (Option.some (9 : Nat)) (Go.Op.index (9 : Nat) (Go.Operand.const (Go.Value.string (ByteArray.mk #[(48 : UInt8), (49 : UInt8), (50 : UInt8), (51 : UInt8), (52 : UInt8), (53 : UInt8), (54 : UInt8), (55 : UInt8), (56 : UInt8), (57 : UInt8), (97 : UInt8), (98 : UInt8), (99 : UInt8), (100 : UInt8), (101 : UInt8), (102 : UInt8)]))) (Go.Operand.tmp (8 : Nat))) (5 : Nat) "b64.go:105" #[Go.Edge.mk (0 : Nat) Go.Ground.data] Option.none, Go.Oper.mk (Option.some (10 : Nat)) (Go.Op.call (Go.Call.mk (Go.Callee.value (Go.Operand.func (23 : Nat))) #[Go.Operand.tmp (3 : Nat), Go.Operand.tmp (9 : Nat)] #[(36 : Nat), (5 : Nat)])) (41 : Nat) "b64.go:105" #[Go.Edge.mk (1 : Nat) Go.Ground.data] Option.none] Bool.false)) ∧ Go.Proofs.YtkihnmpjpbfiaaaDoor.Mine.Hx.sideN (Go.Proofs.YtkihnmpjpbfiaaaDoor.Mine.GIn.s (Go.Proofs.YtkihnmpjpbfiaaaDoor.Mine.GIn.mk s (8 : Int) (4 : Int)))) ∧ (List.length (Go.Proofs.YtkihnmpjpbfiaaaDoor.Mine.encL (4 : Nat) Go.Proofs.YtkihnmpjpbfiaaaDoor.Mine.Hx.tb (Array.toList (ByteArray.data (Go.Proofs.YtkihnmpjpbfiaaaDoor.Mine.GIn.s (Go.Proofs.YtkihnmpjpbfiaaaDoor.Mine.GIn.mk s (8 : Int) (4 : Int)))))) = List.length (Go.Proofs.YtkihnmpjpbfiaaaDoor.Mine.encL (4 : Nat) Go.Proofs.YtkihnmpjpbfiaaaDoor.Mine.Hx.tb (Array.toList (ByteArray.data (Go.Proofs.YtkihnmpjpbfiaaaDoor.Mine.GIn.s (Go.Proofs.YtkihnmpjpbfiaaaDoor.Mine.GIn.mk s (8 : Int) (4 : Int)))))) ∧ (0 : Nat) < List.length (Go.Proofs.YtkihnmpjpbfiaaaDoor.Mine.encL (4 : Nat) Go.Proofs.YtkihnmpjpbfiaaaDoor.Mine.Hx.tb (Array.toList (ByteArray.data (Go.Proofs.YtkihnmpjpbfiaaaDoor.Mine.GIn.s (Go.Proofs.YtkihnmpjpbfiaaaDoor.Mine.GIn.mk s (8 : Int) (4 : Int)))))) ∧ List.length (Go.Proofs.YtkihnmpjpbfiaaaDoor.Mine.encL (4 : Nat) Go.Proofs.YtkihnmpjpbfiaaaDoor.Mine.Hx.tb (Array.toList (ByteArray.data (Go.Proofs.YtkihnmpjpbfiaaaDoor.Mine.GIn.s (Go.Proofs.YtkihnmpjpbfiaaaDoor.Mine.GIn.mk s (8 : Int) (4 : Int)))))) ≤ (4611686018427387904 : Nat)) ∧ True ∧ (ByteArray.mk (List.toArray (Go.Proofs.YtkihnmpjpbfiaaaDoor.Mine.encL (4 : Nat) Go.Proofs.YtkihnmpjpbfiaaaDoor.Mine.Hx.tb (Array.toList (ByteArray.data (Go.Proofs.YtkihnmpjpbfiaaaDoor.Mine.GIn.s (Go.Proofs.YtkihnmpjpbfiaaaDoor.Mine.GIn.mk s (8 : Int) (4 : Int))))))) = Go.Proofs.YtkihnmpjpbfiaaaDoor.Mine.hexS s ∧ True) ∧ True ∧ True) := by kernel_rfl

theorem hz_vc  (s : ByteArray) : (awp CHZ how0 (bodyOf Tryd.f11) ⟨[.str s] ++ List.replicate 11 .u, [], []⟩ (finA CHZ.P Tryd.f11 0 (.str (hexS s)) [])) =
    (True ∧ True ∧ True ∧ True ∧ (Go.Proofs.YtkihnmpjpbfiaaaDoor.Ev.LKey.mk #[(7 : Nat)] (Go.Code.region (3 : Nat) #[Go.Oper.mk (Option.some (4 : Nat)) (Go.Op.assign (Go.Operand.tmp (7 : Nat))) (3 : Nat) "b64.go:104" #[] Option.none] Bool.false) (Go.Code.block (1 : Nat) (Go.Code.region (4 : Nat) #[Go.Oper.mk (Option.some (8 : Nat)) (Go.Op.move (Go.Operand.tmp (4 : Nat))) (3 : Nat) "b64.go:105" #[] Option.none, Go.Oper.mk (Option.some (9 : Nat)) (Go.Op.index (9 : Nat) (Go.Operand.const (Go.Value.string (ByteArray.mk #[(48 : UInt8), (49 : UInt8), (50 : UInt8), (51 : UInt8), (52 : UInt8), (53 : UInt8), (54 : UInt8), (55 : UInt8), (56 : UInt8), (57 : UInt8), (97 : UInt8), (98 : UInt8), (99 : UInt8), (100 : UInt8), (101 : UInt8), (102 : UInt8)]))) (Go.Operand.tmp (8 : Nat))) (5 : Nat) "b64.go:105" #[Go.Edge.mk (0 : Nat) Go.Ground.data] Option.none, Go.Oper.mk (Option.some (10 : Nat)) (Go.Op.call (Go.Call.mk (Go.Callee.value (Go.Operand.func (23 : Nat))) #[Go.Operand.tmp (3 : Nat), Go.Operand.tmp (9 : Nat)] #[(36 : Nat), (5 : Nat)])) (41 : Nat) "b64.go:105" #[Go.Edge.mk (1 : Nat) Go.Ground.data] Option.none] Bool.false)) = Go.Proofs.YtkihnmpjpbfiaaaDoor.Ev.LKey.mk #[(7 : Nat)] (Go.Code.region (3 : Nat) #[Go.Oper.mk (Option.some (4 : Nat)) (Go.Op.assign (Go.Operand.tmp (7 : Nat))) (3 : Nat) "b64.go:104" #[] Option.none] Bool.false) (Go.Code.block (1 : Nat) (Go.Code.region (4 : Nat) #[Go.Oper.mk (Option.some (8 : Nat)) (Go.Op.move (Go.Operand.tmp (4 : Nat))) (3 : Nat) "b64.go:105" #[] Option.none, Go.Oper.mk (Option.some (9 : Nat)) (Go.Op.index (9 : Nat) (Go.Operand.const (Go.Value.string (ByteArray.mk #[(48 : UInt8), (49 : UInt8), (50 : UInt8), (51 : UInt8), (52 : UInt8), (53 : UInt8), (54 : UInt8), (55 : UInt8), (56 : UInt8), (57 : UInt8), (97 : UInt8), (98 : UInt8), (99 : UInt8), (100 : UInt8), (101 : UInt8), (102 : UInt8)]))) (Go.Operand.tmp (8 : Nat))) (5 : Nat) "b64.go:105" #[Go.Edge.mk (0 : Nat) Go.Ground.data] Option.none, Go.Oper.mk (Option.some (10 : Nat)) (Go.Op.call (Go.Call.mk (Go.Callee.value (Go.Operand.func (23 : Nat))) #[Go.Operand.tmp (3 : Nat), Go.Operand.tmp (9 : Nat)] #[(36 : Nat), (5 : Nat)])) (41 : Nat) "b64.go:105" #[Go.Edge.mk (1 : Nat) Go.Ground.data] Option.none] Bool.false)) ∧ Go.Proofs.YtkihnmpjpbfiaaaDoor.Mine.Hx.sideZ (Go.Proofs.YtkihnmpjpbfiaaaDoor.Mine.GIn.s (Go.Proofs.YtkihnmpjpbfiaaaDoor.Mine.GIn.mk s (8 : Int) (4 : Int)))) ∧ True ∧ True ∧ (ByteArray.empty = Go.Proofs.YtkihnmpjpbfiaaaDoor.Mine.hexS s ∧ True) ∧ True ∧ True) := by kernel_rfl

theorem en_walk (s : ByteArray) (h0 : 0 < s.size) (hs : s.size ≤ 2 ^ 40) : awp CEN (howEnc s) (bodyOf Tryd.f10) ⟨[.str s] ++ List.replicate 15 .u, [], []⟩ (finA CEN.P Tryd.f10 0 (.str (encS s)) []) := by
  rw [en_vc]
  simp only [true_and, and_true, decide_eq_true_eq, decide_eq_false_iff_not, beq_iff_eq, beq_eq_false_iff_ne, bne_iff_ne, bne_eq_false_iff_eq]
  have hl := encL_le (to := 6) (tb := Enc.tb) (l := s.data.toList) (by decide) (by decide)
  rw [size_eq] at hl
  have hp := encL_pos (to := 6) (tb := Enc.tb) (by decide) (by decide) h0
  refine ⟨⟨h0, by unfold okN; omega, by omega⟩, encL 6 Enc.tb s.data.toList, ⟨rfl, hp, by omega⟩, ⟨rfl, rfl⟩, ?_⟩
  rintro y ⟨g1, g2, g3⟩
  have e : ((y.length : Int)).tmod 4 = ((y.length % 4 : Nat) : Int) := by rw [Int.tmod_eq_emod_of_nonneg (by omega)]; omega
  rw [e]
  refine ⟨fun h => ?_, fun h => ?_⟩
  · have h4 : y.length % 4 ≠ 0 := by omega
    have hlen : (y ++ [61]).length = y.length + 1 := by simp
    refine ⟨by omega, y ++ [61], by rw [hlen]; omega, ⟨by rw [padL_step h4, g1], by rw [hlen]; omega, by rw [hlen]; omega⟩, rfl, rfl⟩
  · have h4 : y.length % 4 = 0 := by omega
    refine ⟨⟨g2, by omega⟩, ?_⟩
    unfold encS
    rw [← g1, padL_done h4]
theorem ez_walk (s : ByteArray) (h0 : s.size = 0) : awp CEZ how0 (bodyOf Tryd.f10) ⟨[.str s] ++ List.replicate 15 .u, [], []⟩ (finA CEZ.P Tryd.f10 0 (.str (encS s)) []) := by
  rw [ez_vc]
  simp only [true_and, and_true, decide_eq_true_eq, decide_eq_false_iff_not, beq_iff_eq, beq_eq_false_iff_ne, bne_iff_ne, bne_eq_false_iff_eq]
  refine ⟨h0, ?_⟩
  have e : s.data.toList = [] := List.length_eq_zero_iff.1 (by rw [size_eq]; exact h0)
  unfold encS
  rw [e]; rfl
theorem hn_walk (s : ByteArray) (h0 : 0 < s.size) (hs : s.size ≤ 2 ^ 40) : awp CHN how0 (bodyOf Tryd.f11) ⟨[.str s] ++ List.replicate 11 .u, [], []⟩ (finA CHN.P Tryd.f11 0 (.str (hexS s)) []) := by
  rw [hn_vc]
  simp only [true_and, and_true, decide_eq_true_eq, decide_eq_false_iff_not, beq_iff_eq, beq_eq_false_iff_ne, bne_iff_ne, bne_eq_false_iff_eq]
  have hl := encL_le (to := 4) (tb := Hx.tb) (l := s.data.toList) (by decide) (by decide)
  rw [size_eq] at hl
  have hp := encL_pos (to := 4) (tb := Hx.tb) (by decide) (by decide) h0
  exact ⟨⟨h0, by unfold okN; omega, by omega⟩, ⟨hp, by omega⟩, rfl⟩
theorem hz_walk (s : ByteArray) (h0 : s.size = 0) : awp CHZ how0 (bodyOf Tryd.f11) ⟨[.str s] ++ List.replicate 11 .u, [], []⟩ (finA CHZ.P Tryd.f11 0 (.str (hexS s)) []) := by
  rw [hz_vc]
  simp only [true_and, and_true, decide_eq_true_eq, decide_eq_false_iff_not, beq_iff_eq, beq_eq_false_iff_ne, bne_iff_ne, bne_eq_false_iff_eq]
  refine ⟨h0, ?_⟩
  have e : s.data.toList = [] := List.length_eq_zero_iff.1 (by rw [size_eq]; exact h0)
  unfold hexS
  rw [e]; rfl

theorem spec_imp {P : Program} {g : FuncId} {β : Type} {rp : Rest β} {p q : β → Prop} {val : β → AV} (h1 : SpecOk P g (plainSpec rp p val)) (h : ∀ b, q b → p b) : SpecOk P g (plainSpec rp q val) := by
  intro E η H D w fid av args r m hH hr hN hs
  simp only [plainSpec] at hr
  split at hr
  · rename_i b hb
    cases hr
    exact (h1 E η H D w fid av args (outR (p b) (val b) [] [] fid) m hH (by simp [plainSpec, hb]) hN (h b hs)).mono fun e w' ⟨v, he, η', hc⟩ => ⟨v, he, η', ⟨hc.ext, hc.dom, hc.val, hc.upd, hc.dst, hc.frm, hc.sz, hc.bg⟩⟩
  · cases hr
def encSpec : FSpec := plainSpec strRest (fun s => s.size ≤ 2 ^ 40) (fun s => .str (encS s))
def hexSpec : FSpec := plainSpec strRest (fun s => s.size ≤ 2 ^ 40) (fun s => .str (hexS s))
theorem enc_ok : SpecOk Tryd.prog 10 encSpec :=
  spec_imp (spec_or (p := fun s : ByteArray => 0 < s.size ∧ s.size ≤ 2 ^ 40) (q := fun s : ByteArray => s.size = 0)
    (plain_ok (C := CEN) (fn := Tryd.f10) (c := bodyOf Tryd.f10) rfl Tryd.func10 (by rfl) (spOf_ok lEN_ok) mixed (fun _ => rfl) (how := howEnc) (fun s hs => en_walk s hs.1 hs.2))
    (plain_ok (C := CEZ) (fn := Tryd.f10) (c := bodyOf Tryd.f10) rfl Tryd.func10 (by rfl) (spOf_ok lEZ_ok) mixed (fun _ => rfl) (how := fun _ => how0) (fun s hs => ez_walk s hs))) (fun s hs => by omega)
theorem hex_ok : SpecOk Tryd.prog 11 hexSpec :=
  spec_imp (spec_or (p := fun s : ByteArray => 0 < s.size ∧ s.size ≤ 2 ^ 40) (q := fun s : ByteArray => s.size = 0)
    (plain_ok (C := CHN) (fn := Tryd.f11) (c := bodyOf Tryd.f11) rfl Tryd.func11 (by rfl) (spOf_ok lHN_ok) mixed (fun _ => rfl) (how := fun _ => how0) (fun s hs => hn_walk s hs.1 hs.2))
    (plain_ok (C := CHZ) (fn := Tryd.f11) (c := bodyOf Tryd.f11) rfl Tryd.func11 (by rfl) (spOf_ok lHZ_ok) mixed (fun _ => rfl) (how := fun _ => how0) (fun s hs => hz_walk s hs))) (fun s hs => by omega)

end Go.Proofs.YtkihnmpjpbfiaaaDoor.Mine
