/- The contracts of IndexByte, ValidRune, trimRightByte. -/
import Derived.Test.YtkihnmpjpbfiaaaDoorB6
import Derived.Lib.Bytealg
set_option linter.unusedVariables false
set_option linter.unusedSimpArgs false
namespace Go.Proofs.YtkihnmpjpbfiaaaDoor.Mine
open Go Go.Proofs.YtkihnmpjpbfiaaaDoor.Ev Go.Proofs
set_option maxRecDepth 100000

/-! ### IndexByte -/
def ixB (s : ByteArray) (c : Int) : Int := Lib.indexByte s.data.toList c.toNat.toUInt8
def ibSpec : FSpec := plainSpec strU8Rest (fun _ => True) (fun x => .i .i64 (ixB x.1 x.2))
theorem ib_ext : ExtOk Tryd.prog 46 ibSpec := fun E η H D w fid av args r m hH h _ _ => by
  simp only [ibSpec, plainSpec] at h
  split at h
  case h_2 => cases h
  rename_i b hb
  cases h
  simp only [strU8Rest] at hb
  split at hb
  case h_2 => cases hb
  rename_i s a
  split at hb
  case h_2 => cases hb
  rename_i c hc
  cases hb
  simp only [MatL] at m
  obtain ⟨v1, r1, hv, m1, v2, r2, h2, m2, h3⟩ := m
  subst h2 h3
  have ha : args = #[v1, v2] := by apply Array.ext'; rw [hv]
  subst ha
  simp only [Mat] at m1
  subst m1
  have e2 := avInt_ok hc m2
  subst e2
  refine ⟨.int .i64 (ixB s c), w, ?_, η, .pure (by simp [outR, AV.ren, Mat]) rfl⟩
  rw [run_callFunc_extern Tryd.func46 (by kernel_rfl) (by kernel_rfl) (by kernel_rfl) (e := Extern.BytealgIndexByte.indexByte) (by kernel_rfl)]
  rw [Lib.run_indexByteString s c w]; rfl

theorem fok {P : Program} {g : FuncId} {s : FSpec} {fn : Func} {b : Code} (h : SpecOk P g s) (hf : P.funcs[g]? = some fn) (hb : fn.body = some b) (hn : (fn.name == "runtime.NumGoroutine") = false) : FOk P g s := .inl ⟨h, fn, b, hf, hb, hn⟩

def l41 : List (FuncId × FSpec) := [(46, ibSpec)]
theorem l41_ok : AllOk Tryd.prog l41 := ⟨⟨by decide, .inr ib_ext⟩, trivial⟩
noncomputable def C41 : Ctx := { P := Tryd.prog, sp := spOf l41, nm := false }

theorem ib41_vc  (s : ByteArray) (c : Int) : (awp C41 how0 (bodyOf Tryd.f41) ⟨[.str s, .i .u8 c] ++ List.replicate 6 .u, [], []⟩ (finA C41.P Tryd.f41 0 (.i .i64 (ixB s c)) [])) =
    (True ∧ True ∧ True ∧ True ∧ True ∧ (Go.Proofs.YtkihnmpjpbfiaaaDoor.Mine.ixB (Prod.fst (s, c)) (Prod.snd (s, c)) = Go.Proofs.YtkihnmpjpbfiaaaDoor.Mine.ixB s c ∧ True) ∧ True ∧ True) := by kernel_rfl

theorem ib41_ok : SpecOk Tryd.prog 41 ibSpec :=
  plain_ok (C := C41) (fn := Tryd.f41) (c := bodyOf Tryd.f41) rfl Tryd.func41 (by rfl) (spOf_ok l41_ok) mixed (fun _ => rfl) (how := fun _ => how0) (fun x _ => by
    show awp C41 how0 (bodyOf Tryd.f41) ⟨[.str x.1, .i .u8 x.2] ++ List.replicate 6 .u, [], []⟩ (finA C41.P Tryd.f41 0 (.i .i64 (ixB x.1 x.2)) [])
    rw [ib41_vc]; simp)

def l30 : List (FuncId × FSpec) := [(41, ibSpec)]
theorem l30_ok : AllOk Tryd.prog l30 := ⟨⟨by decide, fok ib41_ok Tryd.func41 rfl (by kernel_rfl)⟩, trivial⟩
noncomputable def C30 : Ctx := { P := Tryd.prog, sp := spOf l30, nm := false }

theorem ib30_vc  (s : ByteArray) (c : Int) : (awp C30 how0 (bodyOf Tryd.f30) ⟨[.str s, .i .u8 c] ++ List.replicate 6 .u, [], []⟩ (finA C30.P Tryd.f30 0 (.i .i64 (ixB s c)) [])) =
    (True ∧ True ∧ True ∧ True ∧ True ∧ (Go.Proofs.YtkihnmpjpbfiaaaDoor.Mine.ixB (Prod.fst (s, c)) (Prod.snd (s, c)) = Go.Proofs.YtkihnmpjpbfiaaaDoor.Mine.ixB s c ∧ True) ∧ True ∧ True) := by kernel_rfl

theorem ib30_ok : SpecOk Tryd.prog 30 ibSpec :=
  plain_ok (C := C30) (fn := Tryd.f30) (c := bodyOf Tryd.f30) rfl Tryd.func30 (by rfl) (spOf_ok l30_ok) mixed (fun _ => rfl) (how := fun _ => how0) (fun x _ => by
    show awp C30 how0 (bodyOf Tryd.f30) ⟨[.str x.1, .i .u8 x.2] ++ List.replicate 6 .u, [], []⟩ (finA C30.P Tryd.f30 0 (.i .i64 (ixB x.1 x.2)) [])
    rw [ib30_vc]; simp)

/-! ### ValidRune -/
def vrB (r : Int) : Bool := decide ((0 ≤ r ∧ r < 55296) ∨ (57343 < r ∧ r ≤ 1114111))
def vrSpec : FSpec := plainSpec i32Rest (fun _ => True) (fun r => .c (vrB r))

theorem vr_vc  (r : Int) : (awp C0 how0 (bodyOf Tryd.f38) ⟨[.i .i32 r] ++ List.replicate 16 .u, [], []⟩ (finA C0.P Tryd.f38 0 (.c (vrB r)) [])) =
    (True ∧ True ∧ True ∧ True ∧ (Decidable.decide ((0 : Int) ≤ r) = Bool.true → True ∧ True ∧ True ∧ True ∧ (Decidable.decide (r < (55296 : Int)) = Bool.true → True ∧ (Bool.true = Go.Proofs.YtkihnmpjpbfiaaaDoor.Mine.vrB r ∧ True) ∧ True ∧ True) ∧ (Decidable.decide (r < (55296 : Int)) = Bool.false → True ∧ True ∧ True ∧ (Decidable.decide ((57343 : Int) < r) = Bool.true → True ∧ True ∧ True ∧ True ∧ (Decidable.decide (r ≤ (1114111 : Int)) = Bool.true → True ∧ (Bool.true = Go.Proofs.YtkihnmpjpbfiaaaDoor.Mine.vrB r ∧ True) ∧ True ∧ True) ∧ (Decidable.decide (r ≤ (1114111 : Int)) = Bool.false → True ∧ (Bool.false = Go.Proofs.YtkihnmpjpbfiaaaDoor.Mine.vrB r ∧ True) ∧ True ∧ True)) ∧ (Decidable.decide ((57343 : Int) < r) = Bool.false → True ∧ True ∧ True ∧ (Bool.false = Go.Proofs.YtkihnmpjpbfiaaaDoor.Mine.vrB r ∧ True) ∧ True ∧ True))) ∧ (Decidable.decide ((0 : Int) ≤ r) = Bool.false → True ∧ True ∧ True ∧ True ∧ True ∧ (Decidable.decide ((57343 : Int) < r) = Bool.true → True ∧ True ∧ True ∧ True ∧ (Decidable.decide (r ≤ (1114111 : Int)) = Bool.true → True ∧ (Bool.true = Go.Proofs.YtkihnmpjpbfiaaaDoor.Mine.vrB r ∧ True) ∧ True ∧ True) ∧ (Decidable.decide (r ≤ (1114111 : Int)) = Bool.false → True ∧ (Bool.false = Go.Proofs.YtkihnmpjpbfiaaaDoor.Mine.vrB r ∧ True) ∧ True ∧ True)) ∧ (Decidable.decide ((57343 : Int) < r) = Bool.false → True ∧ True ∧ True ∧ (Bool.false = Go.Proofs.YtkihnmpjpbfiaaaDoor.Mine.vrB r ∧ True) ∧ True ∧ True))) := by kernel_rfl

theorem vr_ok : SpecOk Tryd.prog 38 vrSpec :=
  plain_ok (C := C0) (fn := Tryd.f38) (c := bodyOf Tryd.f38) rfl Tryd.func38 (by rfl) sp0_ok mixed (fun _ => rfl) (how := fun _ => how0) (fun x _ => by
    show awp C0 how0 (bodyOf Tryd.f38) ⟨[.i .i32 x] ++ List.replicate 16 .u, [], []⟩ (finA C0.P Tryd.f38 0 (.c (vrB x)) [])
    rw [vr_vc]; unfold vrB; simp; omega)

/-! ### trimRightByte -/
def trimL (l : List UInt8) (c : UInt8) : List UInt8 := (l.reverse.dropWhile (· == c)).reverse
def trimS (s : ByteArray) (c : Int) : ByteArray := ⟨(trimL s.data.toList (byteOf c)).toArray⟩
def trInv (s : ByteArray) (c : Int) : LInv := { σ := ByteArray, st := fun t => ⟨[.str t, .i .u8 c] ++ List.replicate 21 .u, [], []⟩, m := fun t => t.size, rel := fun _ t => trimS t c = trimS s c ∧ t.size ≤ s.size }
def howTr (s : ByteArray) (c : Int) : Nat → How := fun _ => .inv (trInv s c)
def trSpec : FSpec := plainSpec strU8Rest (fun x => (0 ≤ x.2 ∧ x.2 < 256) ∧ x.1.size < 2 ^ 62) (fun x => .str (trimS x.1 x.2))

theorem tr_vc  (s : ByteArray) (c : Int) : (awp C0 (howTr s c) (bodyOf Tryd.f34) ⟨[.str s, .i .u8 c] ++ List.replicate 21 .u, [], []⟩ (finA C0.P Tryd.f34 0 (.str (trimS s c)) [])) =
    (True ∧ ∃ (x0 : ByteArray), (Go.Proofs.YtkihnmpjpbfiaaaDoor.Mine.trimS x0 c = Go.Proofs.YtkihnmpjpbfiaaaDoor.Mine.trimS s c ∧ ByteArray.size x0 ≤ ByteArray.size s) ∧ ((s = x0 ∧ c = c ∧ True ∧ True ∧ True ∧ True ∧ True ∧ True ∧ True ∧ True ∧ True ∧ True ∧ True ∧ True ∧ True ∧ True ∧ True ∧ True ∧ True ∧ True ∧ True ∧ True ∧ True ∧ True) ∧ True ∧ True) ∧ ∀ (y : ByteArray), Go.Proofs.YtkihnmpjpbfiaaaDoor.Mine.trimS y c = Go.Proofs.YtkihnmpjpbfiaaaDoor.Mine.trimS s c ∧ ByteArray.size y ≤ ByteArray.size s → True ∧ True ∧ True ∧ True ∧ (Decidable.decide ((↑(ByteArray.size y) : Int) > (0 : Int)) = Bool.true → True ∧ True ∧ True ∧ True ∧ ((0 : Int) ≤ Go.IntKind.wrap Go.IntKind.i64 ((↑(ByteArray.size y) : Int) - (1 : Int)) ∧ Go.IntKind.wrap Go.IntKind.i64 ((↑(ByteArray.size y) : Int) - (1 : Int)) < (↑(ByteArray.size y) : Int)) ∧ True ∧ True ∧ True ∧ (((↑(UInt8.toNat (match (Array.toList (ByteArray.data y))[Int.toNat (Go.IntKind.wrap Go.IntKind.i64 ((↑(ByteArray.size y) : Int) - (1 : Int)))]? with | Option.some x => x | Option.none => (0 : UInt8))) : Int) == c) = Bool.true → True ∧ True ∧ True ∧ True ∧ (True ∧ Int.NonNeg (Go.IntKind.wrap Go.IntKind.i64 ((↑(ByteArray.size y) : Int) - (1 : Int)) - (0 : Int)) ∧ (0 : Nat) ≤ Int.toNat (Go.IntKind.wrap Go.IntKind.i64 ((↑(ByteArray.size y) : Int) - (1 : Int))) ∧ Int.toNat (Go.IntKind.wrap Go.IntKind.i64 ((↑(ByteArray.size y) : Int) - (1 : Int))) ≤ ByteArray.size y) ∧ True ∧ ∃ (y' : ByteArray), ByteArray.size y' < ByteArray.size y ∧ (Go.Proofs.YtkihnmpjpbfiaaaDoor.Mine.trimS y' c = Go.Proofs.YtkihnmpjpbfiaaaDoor.Mine.trimS s c ∧ ByteArray.size y' ≤ ByteArray.size s) ∧ (ByteArray.extract y (0 : Nat) (Int.toNat (Go.IntKind.wrap Go.IntKind.i64 ((↑(ByteArray.size y) : Int) - (1 : Int)))) = y' ∧ c = c ∧ True ∧ True ∧ True ∧ True ∧ True ∧ True ∧ True ∧ True ∧ True ∧ True ∧ True ∧ True ∧ True ∧ True ∧ True ∧ True ∧ True ∧ True ∧ True ∧ True ∧ True ∧ True) ∧ True ∧ True) ∧ (((↑(UInt8.toNat (match (Array.toList (ByteArray.data y))[Int.toNat (Go.IntKind.wrap Go.IntKind.i64 ((↑(ByteArray.size y) : Int) - (1 : Int)))]? with | Option.some x => x | Option.none => (0 : UInt8))) : Int) == c) = Bool.false → True ∧ True ∧ (y = Go.Proofs.YtkihnmpjpbfiaaaDoor.Mine.trimS s c ∧ True) ∧ True ∧ True)) ∧ (Decidable.decide ((↑(ByteArray.size y) : Int) > (0 : Int)) = Bool.false → True ∧ True ∧ True ∧ (y = Go.Proofs.YtkihnmpjpbfiaaaDoor.Mine.trimS s c ∧ True) ∧ True ∧ True)) := by kernel_rfl

theorem nn (x : Int) : Int.NonNeg (x - 0) = (0 ≤ x) := rfl
theorem ext_data {s t : ByteArray} (h : s.data.toList = t.data.toList) : s = t := by
  cases s; cases t; simp at h; simp [h]
theorem mk_data (l : List UInt8) : (ByteArray.mk l.toArray).data.toList = l := rfl
theorem extract_data (s : ByteArray) (i j : Nat) : (s.extract i j).data.toList = (s.data.toList.take j).drop i := by
  rw [ByteArray.data_extract, Array.toList_extract]
  rw [List.drop_take]
theorem trim_snoc (l : List UInt8) (b c : UInt8) : trimL (l ++ [b]) c = if b = c then trimL l c else l ++ [b] := by
  unfold trimL
  rw [List.reverse_append, List.reverse_singleton, List.singleton_append, List.dropWhile_cons]
  by_cases h : b = c <;> simp [h]
theorem byteOf_toNat (b : UInt8) : byteOf (b.toNat : Int) = b := by simp [byteOf]

theorem tr_ok : SpecOk Tryd.prog 34 trSpec :=
  plain_ok (C := C0) (fn := Tryd.f34) (c := bodyOf Tryd.f34) rfl Tryd.func34 (by rfl) sp0_ok mixed (fun _ => rfl) (how := fun x => howTr x.1 x.2) (fun x hx => by
    obtain ⟨s, c⟩ := x
    show awp C0 (howTr s c) (bodyOf Tryd.f34) ⟨[.str s, .i .u8 c] ++ List.replicate 21 .u, [], []⟩ (finA C0.P Tryd.f34 0 (.str (trimS s c)) [])
    rw [tr_vc]
    simp only [true_and, and_true, decide_eq_true_eq, decide_eq_false_iff_not, beq_iff_eq, beq_eq_false_iff_ne]
    refine ⟨s, ⟨rfl, Nat.le_refl _⟩, rfl, fun (y : ByteArray) hy => ⟨fun hp => ?_, fun hp => ?_⟩⟩
    · obtain ⟨l, b, hl⟩ : ∃ l b, y.data.toList = l ++ [b] := by
        rcases List.eq_nil_or_concat y.data.toList with h | ⟨l, b, h⟩
        · have := size_eq y; rw [h] at this; simp at this; omega
        · exact ⟨l, b, by simpa using h⟩
      have e := size_eq y
      rw [hl] at e
      simp at e
      have hx2 := hx.2
      simp only at hx2
      have w1 : IntKind.wrap .i64 ((y.size : Int) - 1) = l.length := by rw [wrap64 (by omega) (by omega)]; omega
      rw [w1, hl]
      simp only [nn, Int.toNat_natCast]
      have e2 : (l ++ [b])[l.length]? = some b := by simp
      rw [e2]
      simp only
      have hex : y.extract 0 l.length = ⟨l.toArray⟩ := by
        apply ext_data; rw [extract_data, hl]; simp
      have hys : trimS y c = if b = byteOf c then trimS ⟨l.toArray⟩ c else y := by
        apply ext_data
        unfold trimS
        rw [hl, mk_data, trim_snoc]
        split <;> simp [hl]
      refine ⟨by omega, fun hc => ?_, fun hc => ?_⟩
      · refine ⟨by omega, y.extract 0 l.length, ?_, ⟨?_, ?_⟩, rfl⟩
        · rw [hex]; show l.toArray.size < y.size; simp; omega
        · rw [hex, ← hy.1, hys, if_pos (by rw [← hc, byteOf_toNat])]
        · rw [hex]; show l.toArray.size ≤ s.size; simp; omega
      · rw [← hy.1, hys, if_neg]
        intro h
        apply hc
        rw [h]
        have := hx.1
        simp only at this
        have e4 : (byteOf c).toNat = c.toNat := by
          unfold byteOf; simp [UInt8.toNat_ofNat']; omega
        rw [e4]; omega
    · have e := size_eq y
      have : y.data.toList = [] := List.length_eq_zero_iff.1 (by omega)
      rw [← hy.1]
      apply ext_data
      simp [trimS, this, trimL])

end Go.Proofs.YtkihnmpjpbfiaaaDoor.Mine
