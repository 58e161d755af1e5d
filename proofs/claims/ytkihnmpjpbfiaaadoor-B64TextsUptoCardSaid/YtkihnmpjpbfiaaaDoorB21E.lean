/- The walk of the law on digits; the six laws' contracts. -/
import Derived.Test.YtkihnmpjpbfiaaaDoorB21D
set_option linter.unusedVariables false
set_option linter.unusedSimpArgs false
namespace Go.Proofs.YtkihnmpjpbfiaaaDoor.Mine
open Go Go.Proofs.YtkihnmpjpbfiaaaDoor.Ev Go.Proofs
set_option maxRecDepth 100000

theorem d64_plain : ∀ n : Nat, n < 64 → (97 ≤ (d64 n).toNat ∧ (d64 n).toNat ≤ 122) ∨ (65 ≤ (d64 n).toNat ∧ (d64 n).toNat ≤ 90) ∨ (48 ≤ (d64 n).toNat ∧ (d64 n).toNat ≤ 57) ∨ (d64 n).toNat = 43 ∨ (d64 n).toNat = 47 := by decide +kernel
theorem let_case (s : ByteArray) (i : Nat) (b : UInt8) (h : (encS s).data.toList[i]? = some b) :
    (i < nl s ∧ ((97 ≤ b.toNat ∧ b.toNat ≤ 122) ∨ (65 ≤ b.toNat ∧ b.toNat ≤ 90) ∨ (48 ≤ b.toNat ∧ b.toNat ≤ 57) ∨ b.toNat = 43 ∨ b.toNat = 47)) ∨ (nl s ≤ i ∧ b.toNat = 61) := by
  unfold encS at h
  rw [mk_data] at h
  unfold padL at h
  rcases Nat.lt_or_ge i (nl s) with hi | hi
  · left
    refine ⟨hi, ?_⟩
    rw [List.getElem?_append_left hi] at h
    have hm := List.mem_of_getElem? h
    unfold encL at hm
    obtain ⟨n, hn, rfl⟩ := List.mem_map.1 hm
    exact d64_plain n (grp_lt _ 0 0 (by decide) n hn)
  · right
    refine ⟨hi, ?_⟩
    rw [List.getElem?_append_right hi] at h
    have hm := List.mem_of_getElem? h
    rw [List.eq_of_mem_replicate hm]; rfl

theorem grp86_len : ∀ (l : List UInt8) (n h : Nat), h < 6 → (grp 8 6 l n h).length = (h + 8 * l.length + 5) / 6
  | [], n, h, hh => by
    simp only [grp]; split <;> simp <;> omega
  | b :: r, n, h, hh => by
    simp only [grp, List.length_append, List.length_cons]
    rw [outs_len (by decide) _ _ (Nat.le_refl _), grp86_len r _ _ (Nat.mod_lt _ (by decide))]
    omega
theorem nl_len (s : ByteArray) : nl s = (8 * s.size + 5) / 6 := by
  unfold nl encL
  rw [List.length_map, grp86_len _ 0 0 (by decide), size_eq]; simp

theorem dig_walk (s : ByteArray) (h1 : s.size ≤ 2 ^ 21) : awp CLw (howGd s) (bodyOf Tryd.f4) ⟨[.str s] ++ List.replicate 77 .u, [], []⟩ (finA CLw.P Tryd.f4 0 (.b true) []) := by
  rw [dig_vc]
  simp only [true_and, and_true, decide_eq_true_eq, decide_eq_false_iff_not, beq_iff_eq, beq_eq_false_iff_ne, bne_iff_ne, bne_eq_false_iff_eq, List.drop_zero, List.take_length, Nat.zero_add]
  have hsz := encS_size s
  have hz : (encS s).size = (s.size + 2) / 3 * 4 := hsz
  refine ⟨by omega, 0, ⟨Nat.zero_le _⟩, ⟨by simp, rfl⟩, ?_⟩
  rintro (i : Nat) ⟨hi⟩
  have w1 : IntKind.wrap .i64 ((i : Int) + 1) = ((i + 1 : Nat) : Int) := by rw [wrap64 (by omega) (by omega)]; omega
  have w2 : IntKind.wrap .i64 (((i - nl s : Nat) : Int) + 1) = ((i - nl s + 1 : Nat) : Int) := by rw [wrap64 (by omega) (by omega)]; omega
  rw [w1, w2]
  refine ⟨fun hlt => ?_, fun hlt => ?_⟩
  · have hlt' : i < (encS s).size := by omega
    obtain ⟨b, hb0, _⟩ := byte_at hlt'
    rw [Int.toNat_natCast, hb0]
    simp only
    have hcase : (i < nl s ∧ ((97 ≤ b.toNat ∧ b.toNat ≤ 122) ∨ (65 ≤ b.toNat ∧ b.toNat ≤ 90) ∨ (48 ≤ b.toNat ∧ b.toNat ≤ 57) ∨ b.toNat = 43 ∨ b.toNat = 47)) ∨ (nl s ≤ i ∧ b.toNat = 61) := let_case s i b hb0
    have step : ∀ a : Int, a = ((i + 1 - nl s : Nat) : Int) → ∃ y' : Nat, (encS s).size - y' < (encS s).size - i ∧ GR s y' ∧ a = ((y' - nl s : Nat) : Int) ∧ ((i + 1 : Nat) : Int) = ((y' : Nat) : Int) :=
      fun a ha => ⟨i + 1, by omega, ⟨by omega⟩, ha, rfl⟩
    have hc : ∃ c : Int, c = (b.toNat : Int) := ⟨_, rfl⟩
    obtain ⟨c, hc⟩ := hc
    rw [← hc]
    refine ⟨⟨by omega, by omega⟩, ?_⟩
    clear hb0 w1 w2 hlt hsz h1
    generalize h61 : (c == 61) = p61
    generalize h47 : (c == 47) = p47
    have f61 : p61 = true ↔ c = 61 := by rw [← h61]; exact beq_iff_eq
    have f47 : p47 = true ↔ c = 47 := by rw [← h47]; exact beq_iff_eq
    clear h61 h47
    cases p61 <;> cases p47 <;> simp only [true_iff, false_iff, Bool.false_eq_true] at f61 f47 <;>
    (repeat' first
      | apply And.intro
      | intro _
      | contradiction
      | exact step _ (by omega)
      | omega)
  · have hn := nl_len s
    have e1 : ((s.size : Int)).tmod 3 = ((s.size % 3 : Nat) : Int) := by rw [Int.tmod_eq_emod_of_nonneg (by omega)]; omega
    have e2 : IntKind.wrap .i64 (3 - ((s.size % 3 : Nat) : Int)) = ((3 - s.size % 3 : Nat) : Int) := by rw [wrap64 (by omega) (by omega)]; omega
    have e3 : (((3 - s.size % 3 : Nat) : Int)).tmod 3 = (((3 - s.size % 3) % 3 : Nat) : Int) := (Int.ofNat_tmod _ 3).symm
    rw [e1, e2, e3]
    have hq : ∃ q r, s.size = 3 * q + r ∧ r < 3 := ⟨s.size / 3, s.size % 3, by omega, by omega⟩
    obtain ⟨q, r, hq1, hq2⟩ := hq
    have hi2 : i = (encS s).size := by omega
    clear e1 e2 e3
    rw [hi2, hz, hn, hq1]
    have : r = 0 ∨ r = 1 ∨ r = 2 := by omega
    rcases this with rfl | rfl | rfl <;> omega

/-! ### The laws' contracts -/
def law1 : FSpec := plainSpec strRest (fun s => s.size ≤ 2 ^ 21) (fun _ => .b true)
def law2 : FSpec := plainSpec str2Rest (fun x => x.1.size ≤ 2 ^ 21 ∧ x.2.size ≤ 2 ^ 21) (fun _ => .b true)
def int2Rest : Rest (Int × Int) where
  rd := fun r => match r with
    | [a, b] => match avInt? a, avInt? b with
      | some (.i64, c), some (.i64, d) => some (c, d)
      | _, _ => none
    | _ => none
  wr := fun x => [.i .i64 x.1, .i .i64 x.2]
  ok := fun r b h H ids => by
    split at h
    · split at h
      · rename_i hc hd; cases h; exact ⟨argOk_int hc, argOk_int hd, trivial⟩
      · cases h
    · cases h
  fit := fun _ _ => rfl
def intStrRest : Rest (Int × ByteArray) where
  rd := fun r => match r with
    | [a, .str s] => match avInt? a with
      | some (.i64, c) => some (c, s)
      | _ => none
    | _ => none
  wr := fun x => [.i .i64 x.1, .str x.2]
  ok := fun r b h H ids => by
    split at h
    · split at h
      · rename_i hc; cases h; exact ⟨argOk_int hc, argOk_same (b := .str _), trivial⟩
      · cases h
    · cases h
  fit := fun _ _ => rfl
def law3 : FSpec := plainSpec intStrRest (fun x => x.1 < 2 ^ 63 ∧ x.2.size ≤ 2 ^ 21) (fun _ => .b true)
def law4 : FSpec := plainSpec int2Rest (fun x => x.1 < 2 ^ 63 ∧ x.2 < 2 ^ 63) (fun _ => .b true)
theorem joins_ok : SpecOk Tryd.prog 3 law2 :=
  plain_ok (C := CLw) (fn := Tryd.f3) (c := bodyOf Tryd.f3) rfl Tryd.func3 (by rfl) (spOf_ok lLw_ok) mixed (fun _ => rfl) (how := fun _ => how0) (fun x hx => joins_walk x.1 x.2 hx.1 hx.2)
theorem digits_ok : SpecOk Tryd.prog 4 law1 :=
  plain_ok (C := CLw) (fn := Tryd.f4) (c := bodyOf Tryd.f4) rfl Tryd.func4 (by rfl) (spOf_ok lLw_ok) mixed (fun _ => rfl) (how := howGd) (fun s hs => dig_walk s hs)
theorem texts_ok : SpecOk Tryd.prog 5 law1 :=
  plain_ok (C := CLw) (fn := Tryd.f5) (c := bodyOf Tryd.f5) rfl Tryd.func5 (by rfl) (spOf_ok lLw_ok) mixed (fun _ => rfl) (how := fun _ => how0) (fun s hs => texts_walk s hs)
theorem numbers_ok : SpecOk Tryd.prog 6 law3 :=
  plain_ok (C := CLw) (fn := Tryd.f6) (c := bodyOf Tryd.f6) rfl Tryd.func6 (by rfl) (spOf_ok lLw_ok) mixed (fun _ => rfl) (how := fun _ => how0) (fun x hx => numbers_walk x.1 x.2 hx.2 hx.1)
theorem back_ok : SpecOk Tryd.prog 7 law1 :=
  plain_ok (C := CLw) (fn := Tryd.f7) (c := bodyOf Tryd.f7) rfl Tryd.func7 (by rfl) (spOf_ok lLw_ok) mixed (fun _ => rfl) (how := fun _ => how0) (fun s hs => back_walk s hs)
theorem counts_ok : SpecOk Tryd.prog 8 law4 :=
  plain_ok (C := CLw) (fn := Tryd.f8) (c := bodyOf Tryd.f8) rfl Tryd.func8 (by rfl) (spOf_ok lLw_ok) mixed (fun _ => rfl) (how := fun _ => how0) (fun x hx => counts_walk x.1 x.2 hx.1 hx.2)

end Go.Proofs.YtkihnmpjpbfiaaaDoor.Mine
