/- groups under Decode. -/
import Derived.Test.YtkihnmpjpbfiaaaDoorB10
set_option linter.unusedVariables false
set_option linter.unusedSimpArgs false
namespace Go.Proofs.YtkihnmpjpbfiaaaDoor.Mine.Dec
open Go Go.Proofs.YtkihnmpjpbfiaaaDoor.Ev Go.Proofs Go.Proofs.YtkihnmpjpbfiaaaDoor.Mine
set_option maxRecDepth 100000

/-! ### groups under Decode -/
def bt (n : Nat) : UInt8 := UInt8.ofNat n
def decL (l : List UInt8) : List UInt8 := (grp 6 8 l 0 0).map bt
def rdSp (key : LKey) : FSpec := { foot := fun _ fid => List.range fid, run := fun av H fid => match av with
  | [.yl id, a] => match avInt? a with
    | some (.i64, n) => match H id with
      | .lp .ready none tms k => if tms.length = 43 then match tms.getD 8 .u with
        | .p b 0 => if id ≠ b then match H b with
          | .cells (some 34) [.s id2 1 (.l 0) (.e m)] => if id ≠ id2 ∧ b ≠ id2 then match H id2 with
            | .row (some 5) (.bytes l) => some (outR (k = key ∧ m = l.length ∧ l.length + 1 ≤ okN ∧ 0 ≤ n ∧ n < 256) (.b true) [.lp .ready none (only 43 8 (.p 1 0)) key, .cells (some 34) [.s 3 1 (.l 0) (.e (l.length + 1))], .gone, .row (some 5) (.bytes (l ++ [bt n.toNat]))] [id, b, id2] fid)
            | _ => none
            else none
          | _ => none
          else none
        | _ => none
        else none
      | _ => none
    | _ => none
  | _ => none }
theorem rd_contr {key : LKey} (hk : key.ps.size = 1) : RContr 3 key (rdSp key) (fun _ : Int × List UInt8 × Nat => only 43 8 (.p 1 0)) (fun x => [.i .i64 x.1]) (fun x => .lp .ready none (only 43 8 (.p 1 0)) key :: [.cells (some 34) [.s 2 1 (.l 0) (.e x.2.2)], .row (some 5) (.bytes x.2.1)])
    (fun x => x.2.2 = x.2.1.length ∧ x.2.1.length + 1 ≤ okN ∧ 0 ≤ x.1 ∧ x.1 < 256) (fun _ => .b true) (fun x => [.lp .ready none (only 43 8 (.p 1 0)) key, .cells (some 34) [.s 3 1 (.l 0) (.e (x.2.1.length + 1))], .gone, .row (some 5) (.bytes (x.2.1 ++ [bt x.1.toNat]))]) where
  run := fun id avs H fid r h => by
    simp only [rdSp] at h
    split at h
    case h_2 => cases h
    rename_i id' a e
    cases e
    split at h
    case h_2 => cases h
    rename_i n hn
    split at h
    case h_2 => cases h
    rename_i tms k hlp
    split at h
    case isFalse => cases h
    rename_i hlen
    split at h
    case h_2 => cases h
    rename_i b hb
    split at h
    case isFalse => cases h
    rename_i hne
    split at h
    case h_2 => cases h
    rename_i id2 m hc
    split at h
    case isFalse => cases h
    rename_i hid
    obtain ⟨hn1, hn2⟩ := hid
    split at h
    case h_2 => cases h
    rename_i l hl
    cases h
    refine ⟨(n, l, m), [id, b, id2], _, rfl, by decide, rfl, by simp [hne, hn1, hn2], rfl, fun hs => ⟨hs.2, ⟨argOk_int hn, trivial⟩, rfl, fun j hj => ?_⟩⟩
    have : j = 0 ∨ j = 1 ∨ j = 2 := by simp at hj; omega
    rcases this with rfl | rfl | rfl
    · refine ⟨?_, rfl⟩
      show (H id).wk (.lp .ready none (renL _ (only 43 8 (.p 1 0))) key)
      rw [within_eq hlp rfl, ren_only]
      exact ⟨rfl, rfl, hs.1, wkL_only hlen hb⟩
    · exact ⟨AB.wk_eq (within_eq hc rfl), rfl⟩
    · exact ⟨AB.wk_eq (within_eq hl rfl), rfl⟩
  fitA := fun x => ⟨by simp [hk], rfl, rfl, fun j hj => by
    have : j = 0 ∨ j = 1 ∨ j = 2 := by omega
    rcases this with rfl | rfl | rfl
    · exact fit_only rfl
    · rfl
    · rfl⟩
  fitR := fun x => ⟨(by decide : 3 ≤ 4), rfl, fun j hj => by
    have : j = 0 ∨ j = 1 ∨ j = 2 ∨ j = 3 := by simp at hj; omega
    rcases this with rfl | rfl | rfl | rfl
    · exact fit_only rfl
    · rfl
    · rfl
    · rfl⟩

def spD (key : LKey) : Specs := fun g => if g = yieldKey then some (rdSp key) else none
noncomputable def CD (key : LKey) : Ctx := { na := 5, P := Tryd.prog, sp := spD key, nm := false }
def gHp (key : LKey) (s : ByteArray) : List AB := [.lp .ready none (only 43 8 (.p 4 0)) key, .cells (some 9) [.str s], .cells (some 3) [.n .i64 6], .cells (some 3) [.n .i64 8]]
def oNil : List AB := [.cells (some 34) [.v (.slice none 0 0)]]
def oRow (l : List UInt8) : List AB := [.cells (some 34) [.s 5 1 (.l 0) (.e l.length)], .row (some 5) (.bytes l)]
def gTm (h n : Int) (len i : Int) : List AV := [.yl 0, .p 1 0, .p 2 0, .p 3 0, .u, .i .i64 h, .i .i64 n, .u, .u, .i .i64 len, .i .i64 i] ++ List.replicate 48 .u
structure OR (s : ByteArray) (y : GI × List UInt8) : Prop where
  h1 : y.1.h < 8
  h2 : y.1.n < 2 ^ y.1.h
  h3 : y.1.i ≤ s.size
  h4 : y.2 ++ (grp 6 8 (s.data.toList.drop y.1.i) y.1.n y.1.h).map bt = decL s.data.toList
structure IR (s : ByteArray) (n h i : Nat) (l : List UInt8) : Prop where
  h1 : h < 14
  h2 : n < 2 ^ 14
  h3 : i < s.size
  h4 : l ++ (grest 6 8 (s.data.toList.drop (i + 1)) n h).map bt = decL s.data.toList
inductive IRel (s : ByteArray) : GI × List UInt8 → GI × List UInt8 → Prop where
  | mk (y : GI × List UInt8) (h : Nat) (l : List UInt8) (hr : IR s y.1.n h y.1.i l) : IRel s y (⟨h, y.1.n, y.1.i⟩, l)
def gOuter (key : LKey) (s : ByteArray) : LInv := { σ := GI × List UInt8, st := fun x => ⟨gTm x.1.h x.1.n s.size x.1.i, gHp key s ++ oRow x.2, []⟩, m := fun y => s.size - y.1.i, rel := fun _ y => OR s y }
def gInner (key : LKey) (s : ByteArray) : LInv := { σ := GI × List UInt8, st := fun x => ⟨gTm x.1.h x.1.n s.size x.1.i, gHp key s ++ oRow x.2, []⟩, m := fun y => y.1.h, rel := fun x y => IRel s x y }
def howG (key : LKey) (s : ByteArray) : Nat → How := fun id => match id with
  | 2 => .inv (gOuter key s)
  | 5 => .inv (gInner key s)
  | _ => .unroll 1

theorem gd_vc  (key : LKey) (s : ByteArray) : (awp (CD key) (howG key s) (bodyOf Tryd.f32) ⟨[.yl 0, .p 1 0, .p 2 0, .p 3 0] ++ List.replicate 55 .u, gHp key s ++ oNil, []⟩ (finA (CD key).P Tryd.f32 5 (.t []) (gHp key s ++ oRow (decL s.data.toList)))) =
    (True ∧ True ∧ True ∧ True ∧ True ∧ ∃ (x0 : Go.Proofs.YtkihnmpjpbfiaaaDoor.Mine.GI × List UInt8), Go.Proofs.YtkihnmpjpbfiaaaDoor.Mine.Dec.OR s x0 ∧ ((True ∧ True ∧ True ∧ True ∧ True ∧ (0 : Int) = (↑(Go.Proofs.YtkihnmpjpbfiaaaDoor.Mine.GI.h (Prod.fst x0)) : Int) ∧ (0 : Int) = (↑(Go.Proofs.YtkihnmpjpbfiaaaDoor.Mine.GI.n (Prod.fst x0)) : Int) ∧ True ∧ True ∧ (↑(ByteArray.size s) : Int) = (↑(ByteArray.size s) : Int) ∧ (0 : Int) = (↑(Go.Proofs.YtkihnmpjpbfiaaaDoor.Mine.GI.i (Prod.fst x0)) : Int) ∧ True ∧ True ∧ True ∧ True ∧ True ∧ True ∧ True ∧ True ∧ True ∧ True ∧ True ∧ True ∧ True ∧ True ∧ True ∧ True ∧ True ∧ True ∧ True ∧ True ∧ True ∧ True ∧ True ∧ True ∧ True ∧ True ∧ True ∧ True ∧ True ∧ True ∧ True ∧ True ∧ True ∧ True ∧ True ∧ True ∧ True ∧ True ∧ True ∧ True ∧ True ∧ True ∧ True ∧ True ∧ True ∧ True ∧ True ∧ True ∧ True) ∧ True ∧ ((True ∧ True ∧ True ∧ True ∧ True ∧ True ∧ True ∧ True ∧ True ∧ True ∧ True ∧ True ∧ True ∧ True ∧ True ∧ True ∧ True ∧ True ∧ True ∧ True ∧ True ∧ True ∧ True ∧ True ∧ True ∧ True ∧ True ∧ True ∧ True ∧ True ∧ True ∧ True ∧ True ∧ True ∧ True ∧ True ∧ True ∧ True ∧ True ∧ True ∧ True ∧ True ∧ True ∧ True) ∧ Go.LoopState.ready = Go.LoopState.ready ∧ (Option.none : Option Go.Code) = Option.none ∧ key = key) ∧ (s = s ∧ True) ∧ ((6 : Int) = (6 : Int) ∧ True) ∧ ((8 : Int) = (8 : Int) ∧ True) ∧ (((0 : Nat) = (0 : Nat) ∧ List.length (Prod.snd x0) = (0 : Nat)) ∧ True) ∧ List.length (Prod.snd x0) = (0 : Nat) ∧ True) ∧ ∀ (y : Go.Proofs.YtkihnmpjpbfiaaaDoor.Mine.GI × List UInt8), Go.Proofs.YtkihnmpjpbfiaaaDoor.Mine.Dec.OR s y → True ∧ (Decidable.decide ((↑(Go.Proofs.YtkihnmpjpbfiaaaDoor.Mine.GI.i (Prod.fst y)) : Int) < (↑(ByteArray.size s) : Int)) = Bool.true → True ∧ True ∧ True ∧ True ∧ True ∧ True ∧ True ∧ ((0 : Int) ≤ (↑(Go.Proofs.YtkihnmpjpbfiaaaDoor.Mine.GI.i (Prod.fst y)) : Int) ∧ (↑(Go.Proofs.YtkihnmpjpbfiaaaDoor.Mine.GI.i (Prod.fst y)) : Int) < (↑(ByteArray.size s) : Int)) ∧ True ∧ True ∧ True ∧ True ∧ True ∧ True ∧ True ∧ Bool.true = Bool.true ∧ ∃ (x0 : Go.Proofs.YtkihnmpjpbfiaaaDoor.Mine.GI × List UInt8), Go.Proofs.YtkihnmpjpbfiaaaDoor.Mine.Dec.IRel s x0 x0 ∧ ((True ∧ True ∧ True ∧ True ∧ True ∧ Go.IntKind.wrap Go.IntKind.i64 ((↑(Go.Proofs.YtkihnmpjpbfiaaaDoor.Mine.GI.h (Prod.fst y)) : Int) + (6 : Int)) = (↑(Go.Proofs.YtkihnmpjpbfiaaaDoor.Mine.GI.h (Prod.fst x0)) : Int) ∧ Go.IntKind.wrap Go.IntKind.i64 (↑(BitVec.toNat (BitVec.ofInt (64 : Nat) (Go.IntKind.wrap Go.IntKind.i64 ((↑(Go.Proofs.YtkihnmpjpbfiaaaDoor.Mine.GI.n (Prod.fst y)) : Int) * (64 : Int))) ||| BitVec.ofInt (64 : Nat) (Go.IntKind.wrap Go.IntKind.i64 (↑(UInt8.toNat (match (Array.toList (ByteArray.data s))[Int.toNat (↑(Go.Proofs.YtkihnmpjpbfiaaaDoor.Mine.GI.i (Prod.fst y)) : Int)]? with | Option.some x => x | Option.none => (0 : UInt8))) : Int)))) : Int) = (↑(Go.Proofs.YtkihnmpjpbfiaaaDoor.Mine.GI.n (Prod.fst x0)) : Int) ∧ True ∧ True ∧ (↑(ByteArray.size s) : Int) = (↑(ByteArray.size s) : Int) ∧ (↑(Go.Proofs.YtkihnmpjpbfiaaaDoor.Mine.GI.i (Prod.fst y)) : Int) = (↑(Go.Proofs.YtkihnmpjpbfiaaaDoor.Mine.GI.i (Prod.fst x0)) : Int) ∧ True ∧ True ∧ True ∧ True ∧ True ∧ True ∧ True ∧ True ∧ True ∧ True ∧ True ∧ True ∧ True ∧ True ∧ True ∧ True ∧ True ∧ True ∧ True ∧ True ∧ True ∧ True ∧ True ∧ True ∧ True ∧ True ∧ True ∧ True ∧ True ∧ True ∧ True ∧ True ∧ True ∧ True ∧ True ∧ True ∧ True ∧ True ∧ True ∧ True ∧ True ∧ True ∧ True ∧ True ∧ True ∧ True ∧ True ∧ True ∧ True) ∧ True ∧ ((True ∧ True ∧ True ∧ True ∧ True ∧ True ∧ True ∧ True ∧ True ∧ True ∧ True ∧ True ∧ True ∧ True ∧ True ∧ True ∧ True ∧ True ∧ True ∧ True ∧ True ∧ True ∧ True ∧ True ∧ True ∧ True ∧ True ∧ True ∧ True ∧ True ∧ True ∧ True ∧ True ∧ True ∧ True ∧ True ∧ True ∧ True ∧ True ∧ True ∧ True ∧ True ∧ True ∧ True) ∧ Go.LoopState.ready = Go.LoopState.ready ∧ (Option.none : Option Go.Code) = Option.none ∧ key = key) ∧ (s = s ∧ True) ∧ ((6 : Int) = (6 : Int) ∧ True) ∧ ((8 : Int) = (8 : Int) ∧ True) ∧ (((0 : Nat) = (0 : Nat) ∧ List.length (Prod.snd y) = List.length (Prod.snd x0)) ∧ True) ∧ Go.Proofs.YtkihnmpjpbfiaaaDoor.Ev.RC.bytes (Prod.snd y) = Go.Proofs.YtkihnmpjpbfiaaaDoor.Ev.RC.bytes (Prod.snd x0) ∧ True) ∧ ∀ (y_1 : Go.Proofs.YtkihnmpjpbfiaaaDoor.Mine.GI × List UInt8), Go.Proofs.YtkihnmpjpbfiaaaDoor.Mine.Dec.IRel s x0 y_1 → True ∧ True ∧ True ∧ (Decidable.decide ((↑(Go.Proofs.YtkihnmpjpbfiaaaDoor.Mine.GI.h (Prod.fst y_1)) : Int) ≥ (8 : Int)) = Bool.true → True ∧ True ∧ True ∧ True ∧ True ∧ True ∧ True ∧ (0 : Int) ≤ Go.IntKind.wrap Go.IntKind.i64 ((↑(Go.Proofs.YtkihnmpjpbfiaaaDoor.Mine.GI.h (Prod.fst y_1)) : Int) - (8 : Int)) ∧ True ∧ True ∧ True ∧ True ∧ (key = key ∧ List.length (Prod.snd y_1) = List.length (Prod.snd y_1) ∧ List.length (Prod.snd y_1) + (1 : Nat) ≤ (140737488355328 : Nat) ∧ (0 : Int) ≤ Go.IntKind.wrap Go.IntKind.i64 (↑(BitVec.toNat (BitVec.ofInt (64 : Nat) (Int.fdiv (↑(Go.Proofs.YtkihnmpjpbfiaaaDoor.Mine.GI.n (Prod.fst y_1)) : Int) ((2 : Int) ^ Min.min (Int.toNat (Go.IntKind.wrap Go.IntKind.i64 ((↑(Go.Proofs.YtkihnmpjpbfiaaaDoor.Mine.GI.h (Prod.fst y_1)) : Int) - (8 : Int)))) (64 : Nat))) &&& BitVec.ofInt (64 : Nat) (255 : Int))) : Int) ∧ Go.IntKind.wrap Go.IntKind.i64 (↑(BitVec.toNat (BitVec.ofInt (64 : Nat) (Int.fdiv (↑(Go.Proofs.YtkihnmpjpbfiaaaDoor.Mine.GI.n (Prod.fst y_1)) : Int) ((2 : Int) ^ Min.min (Int.toNat (Go.IntKind.wrap Go.IntKind.i64 ((↑(Go.Proofs.YtkihnmpjpbfiaaaDoor.Mine.GI.h (Prod.fst y_1)) : Int) - (8 : Int)))) (64 : Nat))) &&& BitVec.ofInt (64 : Nat) (255 : Int))) : Int) < (256 : Int)) ∧ True ∧ Bool.true = Bool.true ∧ ∃ (y' : Go.Proofs.YtkihnmpjpbfiaaaDoor.Mine.GI × List UInt8), Go.Proofs.YtkihnmpjpbfiaaaDoor.Mine.GI.h (Prod.fst y') < Go.Proofs.YtkihnmpjpbfiaaaDoor.Mine.GI.h (Prod.fst y_1) ∧ Go.Proofs.YtkihnmpjpbfiaaaDoor.Mine.Dec.IRel s x0 y' ∧ (True ∧ True ∧ True ∧ True ∧ True ∧ Go.IntKind.wrap Go.IntKind.i64 ((↑(Go.Proofs.YtkihnmpjpbfiaaaDoor.Mine.GI.h (Prod.fst y_1)) : Int) - (8 : Int)) = (↑(Go.Proofs.YtkihnmpjpbfiaaaDoor.Mine.GI.h (Prod.fst y')) : Int) ∧ (↑(Go.Proofs.YtkihnmpjpbfiaaaDoor.Mine.GI.n (Prod.fst y_1)) : Int) = (↑(Go.Proofs.YtkihnmpjpbfiaaaDoor.Mine.GI.n (Prod.fst y')) : Int) ∧ True ∧ True ∧ (↑(ByteArray.size s) : Int) = (↑(ByteArray.size s) : Int) ∧ (↑(Go.Proofs.YtkihnmpjpbfiaaaDoor.Mine.GI.i (Prod.fst y_1)) : Int) = (↑(Go.Proofs.YtkihnmpjpbfiaaaDoor.Mine.GI.i (Prod.fst y')) : Int) ∧ True ∧ True ∧ True ∧ True ∧ True ∧ True ∧ True ∧ True ∧ True ∧ True ∧ True ∧ True ∧ True ∧ True ∧ True ∧ True ∧ True ∧ True ∧ True ∧ True ∧ True ∧ True ∧ True ∧ True ∧ True ∧ True ∧ True ∧ True ∧ True ∧ True ∧ True ∧ True ∧ True ∧ True ∧ True ∧ True ∧ True ∧ True ∧ True ∧ True ∧ True ∧ True ∧ True ∧ True ∧ True ∧ True ∧ True ∧ True ∧ True) ∧ True ∧ ((True ∧ True ∧ True ∧ True ∧ True ∧ True ∧ True ∧ True ∧ True ∧ True ∧ True ∧ True ∧ True ∧ True ∧ True ∧ True ∧ True ∧ True ∧ True ∧ True ∧ True ∧ True ∧ True ∧ True ∧ True ∧ True ∧ True ∧ True ∧ True ∧ True ∧ True ∧ True ∧ True ∧ True ∧ True ∧ True ∧ True ∧ True ∧ True ∧ True ∧ True ∧ True ∧ True ∧ True) ∧ Go.LoopState.ready = Go.LoopState.ready ∧ (Option.none : Option Go.Code) = Option.none ∧ key = key) ∧ (s = s ∧ True) ∧ ((6 : Int) = (6 : Int) ∧ True) ∧ ((8 : Int) = (8 : Int) ∧ True) ∧ (((0 : Nat) = (0 : Nat) ∧ List.length (Prod.snd y_1) + (1 : Nat) = List.length (Prod.snd y')) ∧ True) ∧ Go.Proofs.YtkihnmpjpbfiaaaDoor.Ev.RC.bytes (Prod.snd y_1 ++ [Go.Proofs.YtkihnmpjpbfiaaaDoor.Mine.Dec.bt (Int.toNat (Go.IntKind.wrap Go.IntKind.i64 (↑(BitVec.toNat (BitVec.ofInt (64 : Nat) (Int.fdiv (↑(Go.Proofs.YtkihnmpjpbfiaaaDoor.Mine.GI.n (Prod.fst y_1)) : Int) ((2 : Int) ^ Min.min (Int.toNat (Go.IntKind.wrap Go.IntKind.i64 ((↑(Go.Proofs.YtkihnmpjpbfiaaaDoor.Mine.GI.h (Prod.fst y_1)) : Int) - (8 : Int)))) (64 : Nat))) &&& BitVec.ofInt (64 : Nat) (255 : Int))) : Int)))]) = Go.Proofs.YtkihnmpjpbfiaaaDoor.Ev.RC.bytes (Prod.snd y') ∧ True) ∧ (Decidable.decide ((↑(Go.Proofs.YtkihnmpjpbfiaaaDoor.Mine.GI.h (Prod.fst y_1)) : Int) ≥ (8 : Int)) = Bool.false → True ∧ True ∧ (0 : Int) ≤ (↑(Go.Proofs.YtkihnmpjpbfiaaaDoor.Mine.GI.h (Prod.fst y_1)) : Int) ∧ True ∧ True ∧ True ∧ True ∧ True ∧ ∃ (y' : Go.Proofs.YtkihnmpjpbfiaaaDoor.Mine.GI × List UInt8), ByteArray.size s - Go.Proofs.YtkihnmpjpbfiaaaDoor.Mine.GI.i (Prod.fst y') < ByteArray.size s - Go.Proofs.YtkihnmpjpbfiaaaDoor.Mine.GI.i (Prod.fst y) ∧ Go.Proofs.YtkihnmpjpbfiaaaDoor.Mine.Dec.OR s y' ∧ (True ∧ True ∧ True ∧ True ∧ True ∧ (↑(Go.Proofs.YtkihnmpjpbfiaaaDoor.Mine.GI.h (Prod.fst y_1)) : Int) = (↑(Go.Proofs.YtkihnmpjpbfiaaaDoor.Mine.GI.h (Prod.fst y')) : Int) ∧ Go.IntKind.wrap Go.IntKind.i64 (↑(BitVec.toNat (BitVec.ofInt (64 : Nat) (↑(Go.Proofs.YtkihnmpjpbfiaaaDoor.Mine.GI.n (Prod.fst y_1)) : Int) &&& BitVec.ofInt (64 : Nat) (Go.IntKind.wrap Go.IntKind.i64 (Go.IntKind.wrap Go.IntKind.i64 ((1 : Int) * (2 : Int) ^ Min.min (Int.toNat (↑(Go.Proofs.YtkihnmpjpbfiaaaDoor.Mine.GI.h (Prod.fst y_1)) : Int)) (64 : Nat)) - (1 : Int))))) : Int) = (↑(Go.Proofs.YtkihnmpjpbfiaaaDoor.Mine.GI.n (Prod.fst y')) : Int) ∧ True ∧ True ∧ (↑(ByteArray.size s) : Int) = (↑(ByteArray.size s) : Int) ∧ Go.IntKind.wrap Go.IntKind.i64 ((↑(Go.Proofs.YtkihnmpjpbfiaaaDoor.Mine.GI.i (Prod.fst y_1)) : Int) + (1 : Int)) = (↑(Go.Proofs.YtkihnmpjpbfiaaaDoor.Mine.GI.i (Prod.fst y')) : Int) ∧ True ∧ True ∧ True ∧ True ∧ True ∧ True ∧ True ∧ True ∧ True ∧ True ∧ True ∧ True ∧ True ∧ True ∧ True ∧ True ∧ True ∧ True ∧ True ∧ True ∧ True ∧ True ∧ True ∧ True ∧ True ∧ True ∧ True ∧ True ∧ True ∧ True ∧ True ∧ True ∧ True ∧ True ∧ True ∧ True ∧ True ∧ True ∧ True ∧ True ∧ True ∧ True ∧ True ∧ True ∧ True ∧ True ∧ True ∧ True ∧ True) ∧ True ∧ ((True ∧ True ∧ True ∧ True ∧ True ∧ True ∧ True ∧ True ∧ True ∧ True ∧ True ∧ True ∧ True ∧ True ∧ True ∧ True ∧ True ∧ True ∧ True ∧ True ∧ True ∧ True ∧ True ∧ True ∧ True ∧ True ∧ True ∧ True ∧ True ∧ True ∧ True ∧ True ∧ True ∧ True ∧ True ∧ True ∧ True ∧ True ∧ True ∧ True ∧ True ∧ True ∧ True ∧ True) ∧ Go.LoopState.ready = Go.LoopState.ready ∧ (Option.none : Option Go.Code) = Option.none ∧ key = key) ∧ (s = s ∧ True) ∧ ((6 : Int) = (6 : Int) ∧ True) ∧ ((8 : Int) = (8 : Int) ∧ True) ∧ (((0 : Nat) = (0 : Nat) ∧ List.length (Prod.snd y_1) = List.length (Prod.snd y')) ∧ True) ∧ Go.Proofs.YtkihnmpjpbfiaaaDoor.Ev.RC.bytes (Prod.snd y_1) = Go.Proofs.YtkihnmpjpbfiaaaDoor.Ev.RC.bytes (Prod.snd y') ∧ True)) ∧ (Decidable.decide ((↑(Go.Proofs.YtkihnmpjpbfiaaaDoor.Mine.GI.i (Prod.fst y)) : Int) < (↑(ByteArray.size s) : Int)) = Bool.false → True ∧ True ∧ (Decidable.decide ((↑(Go.Proofs.YtkihnmpjpbfiaaaDoor.Mine.GI.h (Prod.fst y)) : Int) > (0 : Int)) = Bool.true → True ∧ True ∧ True ∧ True ∧ True ∧ (0 : Int) ≤ Go.IntKind.wrap Go.IntKind.i64 ((8 : Int) - (↑(Go.Proofs.YtkihnmpjpbfiaaaDoor.Mine.GI.h (Prod.fst y)) : Int)) ∧ True ∧ True ∧ True ∧ True ∧ (key = key ∧ List.length (Prod.snd y) = List.length (Prod.snd y) ∧ List.length (Prod.snd y) + (1 : Nat) ≤ (140737488355328 : Nat) ∧ (0 : Int) ≤ Go.IntKind.wrap Go.IntKind.i64 (↑(BitVec.toNat (BitVec.ofInt (64 : Nat) (Go.IntKind.wrap Go.IntKind.i64 ((↑(Go.Proofs.YtkihnmpjpbfiaaaDoor.Mine.GI.n (Prod.fst y)) : Int) * (2 : Int) ^ Min.min (Int.toNat (Go.IntKind.wrap Go.IntKind.i64 ((8 : Int) - (↑(Go.Proofs.YtkihnmpjpbfiaaaDoor.Mine.GI.h (Prod.fst y)) : Int)))) (64 : Nat))) &&& BitVec.ofInt (64 : Nat) (255 : Int))) : Int) ∧ Go.IntKind.wrap Go.IntKind.i64 (↑(BitVec.toNat (BitVec.ofInt (64 : Nat) (Go.IntKind.wrap Go.IntKind.i64 ((↑(Go.Proofs.YtkihnmpjpbfiaaaDoor.Mine.GI.n (Prod.fst y)) : Int) * (2 : Int) ^ Min.min (Int.toNat (Go.IntKind.wrap Go.IntKind.i64 ((8 : Int) - (↑(Go.Proofs.YtkihnmpjpbfiaaaDoor.Mine.GI.h (Prod.fst y)) : Int)))) (64 : Nat))) &&& BitVec.ofInt (64 : Nat) (255 : Int))) : Int) < (256 : Int)) ∧ Bool.true = Bool.true ∧ (True ∧ True ∧ True ∧ True ∧ True ∧ True ∧ True) ∧ True ∧ ((True ∧ True ∧ True ∧ True ∧ True ∧ True ∧ True ∧ True ∧ True ∧ True ∧ True ∧ True ∧ True ∧ True ∧ True ∧ True ∧ True ∧ True ∧ True ∧ True ∧ True ∧ True ∧ True ∧ True ∧ True ∧ True ∧ True ∧ True ∧ True ∧ True ∧ True ∧ True ∧ True ∧ True ∧ True ∧ True ∧ True ∧ True ∧ True ∧ True ∧ True ∧ True ∧ True ∧ True) ∧ Go.LoopState.ready = Go.LoopState.ready ∧ (Option.none : Option Go.Code) = Option.none ∧ key = key) ∧ (s = s ∧ True) ∧ ((6 : Int) = (6 : Int) ∧ True) ∧ ((8 : Int) = (8 : Int) ∧ True) ∧ (((0 : Nat) = (0 : Nat) ∧ List.length (Prod.snd y) + (1 : Nat) = List.length (Go.Proofs.YtkihnmpjpbfiaaaDoor.Mine.Dec.decL (Array.toList (ByteArray.data s)))) ∧ True) ∧ Go.Proofs.YtkihnmpjpbfiaaaDoor.Ev.RC.bytes (Prod.snd y ++ [Go.Proofs.YtkihnmpjpbfiaaaDoor.Mine.Dec.bt (Int.toNat (Go.IntKind.wrap Go.IntKind.i64 (↑(BitVec.toNat (BitVec.ofInt (64 : Nat) (Go.IntKind.wrap Go.IntKind.i64 ((↑(Go.Proofs.YtkihnmpjpbfiaaaDoor.Mine.GI.n (Prod.fst y)) : Int) * (2 : Int) ^ Min.min (Int.toNat (Go.IntKind.wrap Go.IntKind.i64 ((8 : Int) - (↑(Go.Proofs.YtkihnmpjpbfiaaaDoor.Mine.GI.h (Prod.fst y)) : Int)))) (64 : Nat))) &&& BitVec.ofInt (64 : Nat) (255 : Int))) : Int)))]) = Go.Proofs.YtkihnmpjpbfiaaaDoor.Ev.RC.bytes (Go.Proofs.YtkihnmpjpbfiaaaDoor.Mine.Dec.decL (Array.toList (ByteArray.data s))) ∧ True) ∧ (Decidable.decide ((↑(Go.Proofs.YtkihnmpjpbfiaaaDoor.Mine.GI.h (Prod.fst y)) : Int) > (0 : Int)) = Bool.false → (True ∧ True ∧ True ∧ True ∧ True ∧ True ∧ True) ∧ True ∧ ((True ∧ True ∧ True ∧ True ∧ True ∧ True ∧ True ∧ True ∧ True ∧ True ∧ True ∧ True ∧ True ∧ True ∧ True ∧ True ∧ True ∧ True ∧ True ∧ True ∧ True ∧ True ∧ True ∧ True ∧ True ∧ True ∧ True ∧ True ∧ True ∧ True ∧ True ∧ True ∧ True ∧ True ∧ True ∧ True ∧ True ∧ True ∧ True ∧ True ∧ True ∧ True ∧ True ∧ True) ∧ Go.LoopState.ready = Go.LoopState.ready ∧ (Option.none : Option Go.Code) = Option.none ∧ key = key) ∧ (s = s ∧ True) ∧ ((6 : Int) = (6 : Int) ∧ True) ∧ ((8 : Int) = (8 : Int) ∧ True) ∧ (((0 : Nat) = (0 : Nat) ∧ List.length (Prod.snd y) = List.length (Go.Proofs.YtkihnmpjpbfiaaaDoor.Mine.Dec.decL (Array.toList (ByteArray.data s)))) ∧ True) ∧ Go.Proofs.YtkihnmpjpbfiaaaDoor.Ev.RC.bytes (Prod.snd y) = Go.Proofs.YtkihnmpjpbfiaaaDoor.Ev.RC.bytes (Go.Proofs.YtkihnmpjpbfiaaaDoor.Mine.Dec.decL (Array.toList (ByteArray.data s))) ∧ True))) := by kernel_rfl

theorem ir_step {s : ByteArray} {n h i : Nat} {l : List UInt8} (hr : IR s n h i l) (hh : 8 ≤ h) : IR s n (h - 8) i (l ++ [bt (n / 2 ^ (h - 8) % 2 ^ 8)]) ∧ l.length + 1 ≤ (decL s.data.toList).length := by
  have e := hr.h4
  rw [grest_step (by decide) hh] at e
  refine ⟨⟨by have := hr.h1; omega, hr.h2, hr.h3, ?_⟩, ?_⟩
  · rw [← e]; simp
  · rw [← e]; simp
theorem ir_exit {s : ByteArray} {n h i : Nat} {l : List UInt8} (hr : IR s n h i l) (hh : h < 8) : OR s (⟨h, n % 2 ^ h, i + 1⟩, l) := by
  refine ⟨hh, Nat.mod_lt _ (Nat.pow_pos (by decide)), hr.h3, ?_⟩
  have e := hr.h4
  rw [grest_exit hh] at e
  exact e
theorem gd_walk (key : LKey) (s : ByteArray) (hv : ∀ b, b ∈ s.data.toList → b.toNat < 64) (hb : (decL s.data.toList).length ≤ okN) (hz : s.size < 2 ^ 62) : awp (CD key) (howG key s) (bodyOf Tryd.f32) ⟨[.yl 0, .p 1 0, .p 2 0, .p 3 0] ++ List.replicate 55 .u, gHp key s ++ oNil, []⟩ (finA (CD key).P Tryd.f32 5 (.t []) (gHp key s ++ oRow (decL s.data.toList))) := by
  rw [gd_vc]
  simp only [true_and, and_true, decide_eq_true_eq, decide_eq_false_iff_not, beq_iff_eq, beq_eq_false_iff_ne, false_and, and_false, exists_false, or_false, false_or]
  unfold okN at hb
  have inner : ∀ (n h i : Nat) (l : List UInt8), IR s n h i l → 8 ≤ h →
      IntKind.wrap .i64 ((h : Int) - 8) = ((h - 8 : Nat) : Int) ∧ IntKind.wrap .i64 ((BitVec.ofInt 64 ((n : Int).fdiv (2 ^ min (((h - 8 : Nat) : Int)).toNat 64)) &&& BitVec.ofInt 64 255).toNat : Int) = ((n / 2 ^ (h - 8) % 256 : Nat) : Int) ∧ l.length + 1 ≤ 140737488355328 := by
    intro n h i l hr hh
    have h1 := hr.h1
    have h2 := hr.h2
    refine ⟨?_, ?_, ?_⟩
    · rw [wrap64 (by omega) (by omega)]; omega
    · rw [shr_n (by omega)]
      exact and_mask (t := 8) (by have : n / 2 ^ (h - 8) ≤ n := Nat.div_le_self _ _; omega) (by decide)
    · exact Nat.le_trans (ir_step hr hh).2 hb
  have exits : ∀ (n h i : Nat) (l : List UInt8), IR s n h i l → h < 8 →
      IntKind.wrap .i64 ((BitVec.ofInt 64 (n : Int) &&& BitVec.ofInt 64 (IntKind.wrap .i64 (IntKind.wrap .i64 (1 * 2 ^ min ((h : Int)).toNat 64) - 1))).toNat : Int) = ((n % 2 ^ h : Nat) : Int) ∧ IntKind.wrap .i64 ((i : Int) + 1) = ((i + 1 : Nat) : Int) := by
    intro n h i l hr hh
    have h2 := hr.h2
    have h3 := hr.h3
    have hp : 2 ^ h ≤ 2 ^ 8 := Nat.pow_le_pow_right (by decide) (by omega)
    have hp0 : 0 < 2 ^ h := Nat.pow_pos (by decide)
    have e1 : IntKind.wrap .i64 (IntKind.wrap .i64 (1 * 2 ^ min ((h : Int)).toNat 64) - 1) = ((2 ^ h - 1 : Nat) : Int) := by
      rw [Int.toNat_natCast, Nat.min_eq_left (by omega)]
      have : (1 : Int) * 2 ^ h = ((2 ^ h : Nat) : Int) := by simp
      rw [this, wrapN (by omega), wrap64 (by omega) (by omega)]; omega
    rw [e1, and_mask (by omega) (by omega)]
    exact ⟨rfl, by rw [wrap64 (by omega) (by omega)]; omega⟩
  refine ⟨(⟨0, 0, 0⟩, []), ⟨(by decide : 0 < 8), (by decide : 0 < 2 ^ 0), Nat.zero_le _, rfl⟩, ⟨⟨rfl, rfl, rfl⟩, rfl, rfl⟩, fun y hy => ?_⟩
  obtain ⟨q1, q2, q3, q4⟩ := hy
  have hp : 2 ^ y.1.h ≤ 2 ^ 8 := Nat.pow_le_pow_right (by decide) (by omega)
  refine ⟨fun hi => ⟨⟨by omega, by omega⟩, ?_⟩, fun hi => ⟨fun h0 => ?_, fun h0 => ?_⟩⟩
  · have hi' : y.1.i < s.size := by omega
    obtain ⟨b, hb0, hbd⟩ := byte_at hi'
    have hbl : b.toNat < 64 := hv b (List.mem_of_getElem? hb0)
    have hr : IR s (y.1.n * 2 ^ 6 + b.toNat) (y.1.h + 6) y.1.i y.2 := by
      refine ⟨by omega, ?_, hi', ?_⟩
      · have h1 : y.1.n + 1 ≤ 2 ^ y.1.h := q2
        have h2 : (y.1.n + 1) * 2 ^ 6 ≤ 2 ^ y.1.h * 2 ^ 6 := Nat.mul_le_mul_right _ h1
        omega
      · rw [hbd, grp_cons] at q4
        exact q4
    rw [Int.toNat_natCast, hb0]
    have w0 : IntKind.wrap .i64 ((y.1.n : Int) * 64) = ((y.1.n * 2 ^ 6 : Nat) : Int) := by
      rw [wrap64 (by omega) (by omega)]; omega
    have w1 : IntKind.wrap .i64 ((BitVec.ofInt 64 (IntKind.wrap .i64 ((y.1.n : Int) * 64)) ||| BitVec.ofInt 64 (IntKind.wrap .i64 (b.toNat : Int))).toNat : Int) = ((y.1.n * 2 ^ 6 + b.toNat : Nat) : Int) := by
      rw [wrapN (a := b.toNat) (by omega), w0]
      exact or_low (a := y.1.n) (b := b.toNat) (k := 6) (by omega) (by omega)
    have w2 : IntKind.wrap .i64 ((y.1.h : Int) + 6) = ((y.1.h + 6 : Nat) : Int) := by
      rw [wrap64 (by omega) (by omega)]; omega
    refine ⟨(⟨y.1.h + 6, y.1.n * 2 ^ 6 + b.toNat, y.1.i⟩, y.2), .mk _ _ _ hr, ⟨⟨w2, w1, rfl⟩, rfl, rfl⟩, ?_⟩
    intro z hz
    cases hz with | mk h l hr =>
    simp only at hr ⊢
    refine ⟨fun hh => ?_, fun hh => ?_⟩
    · obtain ⟨e1, e2, e3⟩ := inner _ h _ l hr (by omega)
      simp only [e1, e2]
      refine ⟨by omega, ⟨e3, by omega, by omega⟩, (⟨h - 8, y.1.n * 2 ^ 6 + b.toNat, y.1.i⟩, l ++ [bt ((y.1.n * 2 ^ 6 + b.toNat) / 2 ^ (h - 8) % 2 ^ 8)]), by simp only; omega, .mk _ _ _ (ir_step hr (by omega)).1, ⟨rfl, rfl, rfl⟩, by simp, by rw [Int.toNat_natCast]⟩
    · obtain ⟨e1, e2⟩ := exits _ h _ l hr (by omega)
      refine ⟨by omega, (⟨h, (y.1.n * 2 ^ 6 + b.toNat) % 2 ^ h, y.1.i + 1⟩, l), by simp only; omega, ir_exit hr (by omega), ⟨rfl, e1, e2⟩, rfl, rfl⟩
  · have hnil : s.data.toList.drop y.1.i = [] := by rw [List.drop_eq_nil_iff, size_eq]; omega
    rw [hnil] at q4
    simp only [grp] at q4
    rw [if_pos (by omega)] at q4
    have e1 : IntKind.wrap .i64 (8 - (y.1.h : Int)) = ((8 - y.1.h : Nat) : Int) := by rw [wrap64 (by omega) (by omega)]; omega
    have hq : 2 ^ (8 - y.1.h) ≤ 2 ^ 8 := Nat.pow_le_pow_right (by decide) (by omega)
    have hm : y.1.n * 2 ^ (8 - y.1.h) ≤ 2 ^ 8 * 2 ^ 8 := Nat.mul_le_mul (by omega) hq
    have e2 : IntKind.wrap .i64 ((y.1.n : Int) * 2 ^ min (IntKind.wrap .i64 (8 - (y.1.h : Int))).toNat 64) = ((y.1.n * 2 ^ (8 - y.1.h) : Nat) : Int) := by
      rw [e1, Int.toNat_natCast, Nat.min_eq_left (by omega)]
      have : (y.1.n : Int) * 2 ^ (8 - y.1.h) = ((y.1.n * 2 ^ (8 - y.1.h) : Nat) : Int) := by simp
      rw [this, wrapN (by omega)]
    have e3 : IntKind.wrap .i64 ((BitVec.ofInt 64 (IntKind.wrap .i64 ((y.1.n : Int) * 2 ^ min (IntKind.wrap .i64 (8 - (y.1.h : Int))).toNat 64)) &&& BitVec.ofInt 64 255).toNat : Int) = ((y.1.n * 2 ^ (8 - y.1.h) % 2 ^ 8 : Nat) : Int) := by
      rw [e2]; exact and_mask (t := 8) (by omega) (by decide)
    rw [e3, ← q4, Int.toNat_natCast]
    have hlen : y.2.length + 1 ≤ 140737488355328 := by
      refine Nat.le_trans ?_ hb
      rw [← q4]; simp
    refine ⟨by omega, ⟨hlen, by omega, by omega⟩, by simp, by simp⟩
  · have hnil : s.data.toList.drop y.1.i = [] := by rw [List.drop_eq_nil_iff, size_eq]; omega
    rw [hnil] at q4
    simp only [grp] at q4
    rw [if_neg (by omega)] at q4
    rw [← q4]; simp

/-! ### The contracts -/
noncomputable def key : LKey := keyOf Tryd.f12
noncomputable def CR (na : Nat) : Ctx := { na := na, top := false, P := Tryd.prog, sp := sp0, nm := false }

theorem rr_vc  (k : LKey) (n : Int) (l : List UInt8) (m : Nat) : (roundA (CR 3) how0 key (only 43 8 (.p 1 0)) [.i .i64 n] (.lp .ready none (only 43 8 (.p 1 0)) k :: [.cells (some 34) [.s 2 1 (.l 0) (.e m)], .row (some 5) (.bytes l)]) fun b h => leSt 3 ⟨.b b :: ptrs 3, h, []⟩ ⟨.b true :: ptrs 3, [.lp .ready none (only 43 8 (.p 1 0)) k, .cells (some 34) [.s 3 1 (.l 0) (.e (l.length + 1))], .gone, .row (some 5) (.bytes (l ++ [bt n.toNat]))], []⟩) =
    (True ∧ True ∧ True ∧ True ∧ True ∧ ((((0 : Int) ≤ Go.IntKind.wrap Go.IntKind.u8 n ∧ Go.IntKind.wrap Go.IntKind.u8 n < (256 : Int)) ∧ True) ∧ (0 : Nat) + m = List.length l ∧ List.length (List.take m (List.drop (0 : Nat) l) ++ [UInt8.ofNat (Int.toNat (Go.IntKind.wrap Go.IntKind.u8 n))]) * (1 : Nat) ≤ (140737488355328 : Nat)) ∧ True ∧ (Bool.true = Bool.true ∧ True ∧ True ∧ True ∧ True) ∧ True ∧ ((True ∧ True ∧ True ∧ True ∧ True ∧ True ∧ True ∧ True ∧ True ∧ True ∧ True ∧ True ∧ True ∧ True ∧ True ∧ True ∧ True ∧ True ∧ True ∧ True ∧ True ∧ True ∧ True ∧ True ∧ True ∧ True ∧ True ∧ True ∧ True ∧ True ∧ True ∧ True ∧ True ∧ True ∧ True ∧ True ∧ True ∧ True ∧ True ∧ True ∧ True ∧ True ∧ True ∧ True) ∧ Go.LoopState.ready = Go.LoopState.ready ∧ (Option.none : Option Go.Code) = Option.none ∧ k = k) ∧ (((0 : Nat) = (0 : Nat) ∧ List.length (List.take m (List.drop (0 : Nat) l) ++ [UInt8.ofNat (Int.toNat (Go.IntKind.wrap Go.IntKind.u8 n))]) = List.length l + (1 : Nat)) ∧ True) ∧ Go.Proofs.YtkihnmpjpbfiaaaDoor.Ev.RC.bytes (List.take m (List.drop (0 : Nat) l) ++ [UInt8.ofNat (Int.toNat (Go.IntKind.wrap Go.IntKind.u8 n))]) = Go.Proofs.YtkihnmpjpbfiaaaDoor.Ev.RC.bytes (l ++ [Go.Proofs.YtkihnmpjpbfiaaaDoor.Mine.Dec.bt (Int.toNat n)]) ∧ True) := by kernel_rfl

theorem rr_ok : YieldOk Tryd.prog (rdSp key) :=
  yieldOk_of_awp (C := CR 3) rfl (rd_contr (by kernel_rfl)) sp0_ok mixed (how := fun _ => how0) (fun x hx => by
    obtain ⟨n, l, m⟩ := x
    obtain ⟨h1, h2, h3, h4⟩ := hx
    simp only at h1 h2 h3 h4
    show roundA (CR 3) how0 key (only 43 8 (.p 1 0)) [.i .i64 n] (.lp .ready none (only 43 8 (.p 1 0)) key :: [.cells (some 34) [.s 2 1 (.l 0) (.e m)], .row (some 5) (.bytes l)]) fun b h => leSt 3 ⟨.b b :: ptrs 3, h, []⟩ ⟨.b true :: ptrs 3, [.lp .ready none (only 43 8 (.p 1 0)) key, .cells (some 34) [.s 3 1 (.l 0) (.e (l.length + 1))], .gone, .row (some 5) (.bytes (l ++ [bt n.toNat]))], []⟩
    rw [rr_vc]
    have w : IntKind.wrap .u8 n = n := by simp [IntKind.wrap, IntKind.bits, IntKind.signed]; omega
    subst h1
    have hl : (List.take l.length (List.drop 0 l) ++ [UInt8.ofNat n.toNat]) = l ++ [bt n.toNat] := by simp [bt]
    rw [w, hl]
    unfold okN at h2
    refine ⟨trivial, trivial, trivial, trivial, trivial, ⟨⟨⟨h3, h4⟩, trivial⟩, by omega, by rw [List.length_append, List.length_singleton]; omega⟩, ?_⟩
    and_intros
    all_goals first | trivial | exact List.length_append)

/-- groups, called by this loop. -/
def sideD (s : ByteArray) : Prop := (∀ b, b ∈ s.data.toList → b.toNat < 64) ∧ (decL s.data.toList).length ≤ okN ∧ s.size < 2 ^ 62
noncomputable def hrD (s : ByteArray) : List AB := gHp key s ++ oRow (decL s.data.toList)
noncomputable def gRun : FSpec := { foot := fun _ fid => List.range fid, run := fun av H fid => match av with
  | [.yl id, .p a 0, .p f 0, .p t 0] => match H id with
    | .lp .ready none tms k => if tms.length = 43 then match tms.getD 8 .u with
      | .p b 0 => if (id ≠ a ∧ id ≠ f ∧ id ≠ t ∧ id ≠ b) ∧ (a ≠ f ∧ a ≠ t ∧ a ≠ b) ∧ (f ≠ t ∧ f ≠ b) ∧ t ≠ b then match H a, H f, H t, H b with
        | .cells (some 9) [.str s], .cells (some 3) [.n .i64 x], .cells (some 3) [.n .i64 y], .cells (some 34) [.v (.slice none 0 0)] => if x = 6 ∧ y = 8 then some (outR (k = key ∧ sideD s) (.t []) (hrD s) [id, a, f, t, b] fid) else none
        | _, _, _, _ => none
        else none
      | _ => none
      else none
    | _ => none
  | _ => none }
theorem g_contr : Contr 5 gRun (fun _ => [.yl 0, .p 1 0, .p 2 0, .p 3 0]) (fun s => gHp key s ++ oNil) sideD (fun _ => .t []) hrD where
  run := fun av H fid r h => by
    simp only [gRun] at h
    split at h
    case h_2 => cases h
    rename_i id a f t
    split at h
    case h_2 => cases h
    rename_i tms k hlp
    split at h
    case isFalse => cases h
    rename_i hlen
    split at h
    case h_2 => cases h
    rename_i b hb
    split at h
    case isFalse => cases h
    rename_i hne
    split at h
    case h_2 => cases h
    rename_i s x y ha hf ht hc
    split at h
    case isFalse => cases h
    rename_i hxy
    obtain ⟨rfl, rfl⟩ := hxy
    cases h
    refine ⟨s, [id, a, f, t, b], _, rfl, by simp [hne], rfl, fun hs => ⟨hs.2, argOk_same (b := .yl 0), argOk_same (b := .p 1 0), argOk_same (b := .p 2 0), argOk_same (b := .p 3 0), trivial⟩, fun hs j hj => ?_⟩
    have : j = 0 ∨ j = 1 ∨ j = 2 ∨ j = 3 ∨ j = 4 := by simp at hj; omega
    rcases this with rfl | rfl | rfl | rfl | rfl
    · refine ⟨?_, rfl⟩
      show (H id).wk (.lp .ready none (renL _ (only 43 8 (.p 4 0))) key)
      rw [within_eq hlp rfl, ren_only]
      exact ⟨rfl, rfl, hs.1, wkL_only hlen hb⟩
    · exact ⟨AB.wk_eq (within_eq ha rfl), rfl⟩
    · exact ⟨AB.wk_eq (within_eq hf rfl), rfl⟩
    · exact ⟨AB.wk_eq (within_eq ht rfl), rfl⟩
    · exact ⟨AB.wk_eq (within_eq hc rfl), rfl⟩
  fitA := fun s => ⟨rfl, rfl, fun j hj => by
    have : j = 0 ∨ j = 1 ∨ j = 2 ∨ j = 3 ∨ j = 4 := by omega
    rcases this with rfl | rfl | rfl | rfl | rfl
    · exact fit_only rfl
    · rfl
    · rfl
    · rfl
    · rfl⟩
  fitR := fun s => ⟨(by decide : 5 ≤ 6), rfl, fun j hj => by
    have : j = 0 ∨ j = 1 ∨ j = 2 ∨ j = 3 ∨ j = 4 ∨ j = 5 := by simp [hrD, gHp, oRow] at hj; omega
    rcases this with rfl | rfl | rfl | rfl | rfl | rfl
    · exact fit_only rfl
    all_goals rfl⟩
theorem spD_ok : SpecsOk Tryd.prog (spD key) := fun g s h => by
  unfold spD at h
  split at h
  · rename_i e; cases h; subst e
    rw [if_pos rfl]
    exact rr_ok
  · cases h
theorem g_ok : SpecOk Tryd.prog 32 gRun :=
  specOk_of_awp (C := CD key) (fn := Tryd.f32) (c := bodyOf Tryd.f32) Tryd.func32 (by rfl) g_contr spD_ok mixed (how := fun s => howG key s) (fun s hs => gd_walk key s hs.1 hs.2.1 hs.2.2)

end Go.Proofs.YtkihnmpjpbfiaaaDoor.Mine.Dec
