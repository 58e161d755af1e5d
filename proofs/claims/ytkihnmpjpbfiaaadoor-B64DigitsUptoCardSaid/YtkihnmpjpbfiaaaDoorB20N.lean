/- Plain laws of numbers. -/
import Derived.Test.YtkihnmpjpbfiaaaDoorB20
set_option linter.unusedVariables false
set_option linter.unusedSimpArgs false
namespace Go.Proofs.YtkihnmpjpbfiaaaDoor.Mine
open Go Go.Proofs.YtkihnmpjpbfiaaaDoor.Ev Go.Proofs
set_option maxRecDepth 100000

/-! ### Plain laws: numbers -/
theorem digs_step (k : Nat) (n : Int) (acc : List UInt8) : digs (k + 1) n acc = if n / 10 = 0 then byteOf (48 + n % 10) :: acc else digs k (n / 10) (byteOf (48 + n % 10) :: acc) := rfl
theorem digs_acc : ∀ (k : Nat) (n : Int) (acc : List UInt8), digs k n acc = digs k n [] ++ acc
  | 0, n, acc => rfl
  | k + 1, n, acc => by
    rw [digs_step, digs_step]
    split
    · rfl
    · rw [digs_acc k _ (_ :: acc), digs_acc k _ [_], List.append_assoc]; rfl
theorem digs_snoc {k : Nat} {n : Int} (h : ¬ n / 10 = 0) : digs (k + 1) n [] = digs k (n / 10) [] ++ [byteOf (48 + n % 10)] := by
  rw [digs_step, if_neg h, digs_acc]
theorem digs_one {k : Nat} {n : Int} (h : n / 10 = 0) : digs (k + 1) n [] = [byteOf (48 + n % 10)] := by
  rw [digs_step, if_pos h]
theorem byteOf_nat {x : Int} (h : 0 ≤ x) (h' : x < 256) : (byteOf x).toNat = x.toNat := by
  unfold byteOf; rw [UInt8.toNat_ofNat']; omega
theorem takeT_app : ∀ (l m : List UInt8) (n : Int), takeT (l ++ m) n = (takeT l n).bind (takeT m)
  | [], m, n => rfl
  | b :: l, m, n => by
    simp only [List.cons_append, takeT]
    split
    · rfl
    · split
      · rfl
      · exact takeT_app l m _
theorem rparse_app : ∀ (l m : List UInt8) (n : Int), rparse (l ++ m) n = (rparse l n).bind (rparse m)
  | [], m, n => rfl
  | b :: l, m, n => by
    simp only [List.cons_append, rparse]
    split
    · rfl
    · exact rparse_app l m _
theorem pow10 (k : Nat) : (10 : Int) ^ (k + 1) = 10 ^ k * 10 := Int.pow_succ 10 k
theorem take_digs : ∀ (k : Nat) (n : Int), 0 ≤ n → n < 10 ^ k → takeT (digs k n []) 0 = if n ≤ 2 ^ 62 then some n else none
  | 0, n, h, h' => by
    have : n = 0 := by simp at h'; omega
    subst this; rfl
  | k + 1, n, h, h' => by
    have hd : (byteOf (48 + n % 10)).toNat = (48 + n % 10).toNat := byteOf_nat (by omega) (by omega)
    rw [pow10] at h'
    by_cases hz : n / 10 = 0
    · rw [digs_one hz]
      simp only [takeT, hd]
      rw [if_neg (by omega), if_neg (by omega), if_pos (by omega)]
      congr 1; omega
    · rw [digs_snoc hz, takeT_app, take_digs k (n / 10) (by omega) (by omega)]
      by_cases hq : n / 10 ≤ 2 ^ 62
      · rw [if_pos hq]
        simp only [Option.bind_some, takeT, hd]
        rw [if_neg (by omega)]
        by_cases hn : n ≤ 2 ^ 62
        · rw [if_neg (by omega), if_pos hn]; congr 1; omega
        · rw [if_pos (by omega), if_neg hn]
      · rw [if_neg hq, if_neg (by omega)]; rfl
theorem rparse_digs : ∀ (k : Nat) (n : Int), 0 ≤ n → n < 10 ^ k → n ≤ 2 ^ 62 → rparse (digs k n []) 0 = some n
  | 0, n, h, h', _ => by
    have : n = 0 := by simp at h'; omega
    subst this; rfl
  | k + 1, n, h, h', hl => by
    have hd : (byteOf (48 + n % 10)).toNat = (48 + n % 10).toNat := byteOf_nat (by omega) (by omega)
    rw [pow10] at h'
    by_cases hz : n / 10 = 0
    · rw [digs_one hz]
      simp only [rparse, hd]
      rw [if_neg (by omega)]
      congr 1; omega
    · rw [digs_snoc hz, rparse_app, rparse_digs k (n / 10) (by omega) (by omega) (by omega)]
      simp only [Option.bind_some, rparse, hd]
      rw [if_neg (by omega)]
      congr 1; omega
theorem digs_head : ∀ (k : Nat) (n : Int), 0 < n → n < 10 ^ k → ∃ b r, digs k n [] = b :: r ∧ 48 < b.toNat ∧ b.toNat ≤ 57
  | 0, n, h, h' => by simp at h'; omega
  | k + 1, n, h, h' => by
    have hd : (byteOf (48 + n % 10)).toNat = (48 + n % 10).toNat := byteOf_nat (by omega) (by omega)
    rw [pow10] at h'
    by_cases hz : n / 10 = 0
    · exact ⟨_, _, digs_one hz, by omega, by omega⟩
    · obtain ⟨b, r, h1, h2⟩ := digs_head k (n / 10) (by omega) (by omega)
      exact ⟨b, r ++ [byteOf (48 + n % 10)], by rw [digs_snoc hz, h1]; rfl, h2⟩
theorem tnT_head {b : UInt8} {r : List UInt8} (h : b.toNat ≠ 48) : tnT (b :: r) = takeT (b :: r) 0 := by
  cases r with
  | nil => rfl
  | cons c r => simp only [tnT, if_neg h]
theorem lt20 {n : Int} (h : n < 2 ^ 63) : n < 10 ^ 20 := by
  have : (10 : Int) ^ 20 = 100000000000000000000 := by decide
  omega
theorem tnT_num {n : Int} (h : 0 ≤ n) (h' : n < 2 ^ 63) : tnT (digs 20 n []) = if n ≤ 2 ^ 62 then some n else none := by
  by_cases hz : n = 0
  · subst hz; rfl
  · obtain ⟨b, r, h1, h2, _⟩ := digs_head 20 n (by omega) (lt20 h')
    rw [← take_digs 20 n h (lt20 h'), h1, tnT_head (by omega)]
theorem digs_fuel : ∀ (k j : Nat) (n : Int) (acc : List UInt8), 0 ≤ n → n < 10 ^ (k + 1) → n < 10 ^ (j + 1) → digs (k + 1) n acc = digs (j + 1) n acc
  | 0, j, n, acc, h, h1, h2 => by
    have : n / 10 = 0 := by simp at h1; omega
    rw [digs_step, digs_step, if_pos this, if_pos this]
  | k + 1, 0, n, acc, h, h1, h2 => by
    have : n / 10 = 0 := by simp at h2; omega
    rw [digs_step (k + 1), digs_step 0, if_pos this, if_pos this]
  | k + 1, j + 1, n, acc, h, h1, h2 => by
    rw [digs_step, digs_step (j + 1)]
    rw [pow10] at h1 h2
    split
    · rfl
    · exact digs_fuel k j _ _ (by omega) (by omega) (by omega)
theorem byteOf_inv {c : UInt8} {x : Int} (h : x = (c.toNat : Int)) : byteOf x = c := by subst h; exact byteOf_toNat c
theorem take_inv : ∀ (m : Nat) (b : UInt8) (r : List UInt8) (n : Int), r.length = m → b.toNat ≠ 48 → takeT (b :: r) 0 = some n → digs 20 n [] = b :: r ∧ 1 ≤ n ∧ n ≤ 2 ^ 62
  | 0, b, r, n, hm, hb, h => by
    have : r = [] := List.length_eq_zero_iff.1 hm
    subst this
    simp only [takeT] at h
    split at h
    · cases h
    · rename_i h1
      split at h
      · cases h
      · cases h
        have e : (0 * 10 + ((b.toNat : Int) - 48)) / 10 = 0 := by omega
        rw [digs_one e, byteOf_inv (c := b) (by omega)]
        exact ⟨rfl, by omega, by omega⟩
  | m + 1, b, r, n, hm, hb, h => by
    rcases List.eq_nil_or_concat r with rfl | ⟨l, c, rfl⟩
    · simp at hm
    · rw [List.concat_eq_append] at h hm ⊢
      have hl : l.length = m := by simp at hm; exact hm
      have h0 : takeT ((b :: l) ++ [c]) 0 = some n := h
      rw [takeT_app] at h0
      cases hq : takeT (b :: l) 0 with
      | none => rw [hq] at h0; cases h0
      | some q =>
        rw [hq] at h0
        obtain ⟨i1, i2, i3⟩ := take_inv m b l q hl hb hq
        simp only [Option.bind_some, takeT] at h0
        split at h0
        · cases h0
        · rename_i h1
          split at h0
          · cases h0
          · rename_i h2
            cases h0
            have e : (q * 10 + ((c.toNat : Int) - 48)) / 10 = q := by omega
            have hp : (10 : Int) ^ (18 + 1) = 10000000000000000000 := by decide
            have hp2 : (10 : Int) ^ (19 + 1) = 100000000000000000000 := by decide
            rw [digs_snoc (by rw [e]; omega), e, digs_fuel 18 19 q [] (by omega) (by omega) (by omega), i1, byteOf_inv (c := c) (by omega)]
            exact ⟨rfl, by omega, by omega⟩
theorem tnT_inv {l : List UInt8} {n : Int} (h : tnT l = some n) : digs 20 n [] = l ∧ 0 ≤ n ∧ n ≤ 2 ^ 62 := by
  match l, h with
  | [], h => cases h
  | [b], h =>
    by_cases hb : b.toNat = 48
    · simp only [tnT, takeT, hb] at h
      simp at h
      subst h
      have : b = 48 := by apply UInt8.toNat_inj.1; rw [hb]; rfl
      subst this
      exact ⟨rfl, by decide, by decide⟩
    · obtain ⟨h1, h2, h3⟩ := take_inv 0 b [] n rfl hb h
      exact ⟨h1, by omega, h3⟩
  | b :: c :: r, h =>
    simp only [tnT] at h
    split at h
    · cases h
    · rename_i hb
      obtain ⟨h1, h2, h3⟩ := take_inv _ b (c :: r) n rfl hb h
      exact ⟨h1, by omega, h3⟩
theorem rparse_pos : ∀ (l : List UInt8) (m n : Int), 0 ≤ m → rparse l m = some n → 0 ≤ n
  | [], m, n, h, e => by simp only [rparse] at e; cases e; exact h
  | b :: l, m, n, h, e => by
    simp only [rparse] at e
    split at e
    · cases e
    · exact rparse_pos l _ n (by omega) e
theorem numT_data {n : Int} (h : 0 ≤ n) : (numT n).data.toList = digs 20 n [] := by
  unfold numT; rw [if_neg (by omega)]
theorem tn_rt (s : ByteArray) : tnT s.data.toList = rtT s := by
  cases h : tnT s.data.toList with
  | some n =>
    obtain ⟨h1, h2, h3⟩ := tnT_inv h
    have he : numT n = s := ext_data (by rw [numT_data h2, h1])
    have hr : rparse s.data.toList 0 = some n := by rw [← h1]; exact rparse_digs 20 n h2 (lt20 (by omega)) h3
    unfold rtT
    rw [hr]
    simp only
    rw [if_pos ⟨he, h3⟩]
  | none =>
    cases hr : rtT s with
    | none => rfl
    | some n =>
      exfalso
      unfold rtT at hr
      split at hr
      · cases hr
      · rename_i m hm
        split at hr
        · rename_i hc
          have hp := rparse_pos _ _ _ (Int.le_refl 0) hm
          have := tnT_num hp (by omega)
          rw [if_pos hc.2, ← numT_data hp, hc.1, h] at this
          cases this
        · cases hr
theorem tn_eq (s : ByteArray) : tnN s = rtN s ∧ tnB s = rtB s := by
  unfold tnN tnB rtN rtB
  rw [tn_rt]; exact ⟨rfl, rfl⟩
theorem tn_num {n : Int} (h : 0 ≤ n) (h' : n < 2 ^ 63) : tnB (numT n) = decide (n ≤ 2 ^ 62) ∧ (n ≤ 2 ^ 62 → tnN (numT n) = n) := by
  unfold tnB tnN
  rw [numT_data h, tnT_num h h']
  by_cases hn : n ≤ 2 ^ 62
  · rw [if_pos hn]; refine ⟨?_, fun _ => rfl⟩
    rw [Option.isSome_some, eq_comm, decide_eq_true_eq]; exact hn
  · rw [if_neg hn]; refine ⟨?_, fun h => absurd h hn⟩
    rw [Option.isSome_none, eq_comm, decide_eq_false_iff_not]; exact hn

/-! ### More digits, a greater number -/
def valD : List UInt8 → Int → Int
  | [], n => n
  | b :: r, n => valD r (n * 10 + ((b.toNat : Int) - 48))
def allD (l : List UInt8) : Prop := ∀ b, b ∈ l → 48 ≤ b.toNat ∧ b.toNat ≤ 57
theorem valD_app : ∀ (l m : List UInt8) (n : Int), valD (l ++ m) n = valD m (valD l n)
  | [], _, _ => rfl
  | _ :: l, m, n => valD_app l m _
theorem valD_eq : ∀ (l : List UInt8) (n : Int), allD l → valD l n = n * 10 ^ l.length + valD l 0 ∧ 0 ≤ valD l 0 ∧ valD l 0 < 10 ^ l.length
  | [], n, _ => by simp [valD]
  | b :: l, n, h => by
    have hb := h b (by simp)
    have hl : allD l := fun c hc => h c (by simp [hc])
    obtain ⟨h1, h2, h3⟩ := valD_eq l (n * 10 + ((b.toNat : Int) - 48)) hl
    obtain ⟨g1, _, _⟩ := valD_eq l (0 * 10 + ((b.toNat : Int) - 48)) hl
    have hp : (0 : Int) < 10 ^ l.length := Int.pow_pos (by decide)
    simp only [valD, List.length_cons]
    rw [h1, g1, pow10]
    have hx : (0 * 10 + ((b.toNat : Int) - 48)) * 10 ^ l.length ≤ 9 * 10 ^ l.length := Int.mul_le_mul_of_nonneg_right (by omega) (by omega)
    have hx0 : 0 ≤ (0 * 10 + ((b.toNat : Int) - 48)) * 10 ^ l.length := Int.mul_nonneg (by omega) (by omega)
    refine ⟨?_, by omega, by omega⟩
    have : (n * 10 + ((b.toNat : Int) - 48)) * 10 ^ l.length = n * (10 ^ l.length * 10) + (0 * 10 + ((b.toNat : Int) - 48)) * 10 ^ l.length := by
      rw [Int.add_mul]
      congr 1
      · rw [Int.mul_assoc, Int.mul_comm 10]
      · congr 1; omega
    rw [this, Int.add_assoc]
theorem valD_digs : ∀ (k : Nat) (n : Int), 0 ≤ n → n < 10 ^ k → valD (digs k n []) 0 = n ∧ allD (digs k n [])
  | 0, n, h, h' => by
    have : n = 0 := by simp at h'; omega
    subst this; exact ⟨rfl, fun b hb => by simp [digs] at hb⟩
  | k + 1, n, h, h' => by
    have hd : (byteOf (48 + n % 10)).toNat = (48 + n % 10).toNat := byteOf_nat (by omega) (by omega)
    rw [pow10] at h'
    by_cases hz : n / 10 = 0
    · rw [digs_one hz]
      refine ⟨by simp only [valD, hd]; omega, fun b hb => ?_⟩
      simp at hb; subst hb; omega
    · obtain ⟨h1, h2⟩ := valD_digs k (n / 10) (by omega) (by omega)
      rw [digs_snoc hz, valD_app, h1]
      refine ⟨by simp only [valD, hd]; omega, fun b hb => ?_⟩
      rcases List.mem_append.1 hb with hb | hb
      · exact h2 b hb
      · simp at hb; subst hb; omega
theorem lex_val : ∀ (l m : List UInt8), l.length = m.length → allD l → allD m → Op.bytesLess l m = decide (valD l 0 < valD m 0)
  | [], [], _, _, _ => by simp [Op.bytesLess, valD]
  | [], _ :: _, h, _, _ => by simp at h
  | _ :: _, [], h, _, _ => by simp at h
  | a :: l, b :: m, h, h1, h2 => by
    have ha := h1 a (by simp)
    have hb := h2 b (by simp)
    have hl : allD l := fun c hc => h1 c (by simp [hc])
    have hm : allD m := fun c hc => h2 c (by simp [hc])
    have hlen : l.length = m.length := by simpa using h
    have ih := lex_val l m hlen hl hm
    obtain ⟨e1, p1, p2⟩ := valD_eq l (0 * 10 + ((a.toNat : Int) - 48)) hl
    obtain ⟨e2, q1, q2⟩ := valD_eq m (0 * 10 + ((b.toNat : Int) - 48)) hm
    rw [← hlen] at q2 e2
    generalize hP : (10 : Int) ^ l.length = P at *
    have hiff : (valD (a :: l) 0 < valD (b :: m) 0) ↔ ((0 * 10 + ((a.toNat : Int) - 48)) * P + valD l 0 < (0 * 10 + ((b.toNat : Int) - 48)) * P + valD m 0) := by
      rw [← e1, ← e2]; exact Iff.rfl
    rw [decide_eq_decide.2 hiff]
    simp only [Op.bytesLess]
    rw [ih]
    have hlt : (a < b) ↔ a.toNat < b.toNat := UInt8.lt_iff_toNat_lt
    rcases Nat.lt_trichotomy a.toNat b.toNat with hc | hc | hc
    · have h3 : a < b := hlt.2 hc
      have : (0 * 10 + ((a.toNat : Int) - 48) + 1) * P ≤ (0 * 10 + ((b.toNat : Int) - 48)) * P := Int.mul_le_mul_of_nonneg_right (by omega) (by omega)
      rw [Int.add_mul] at this
      simp only [h3, decide_true, Bool.true_or]
      symm
      rw [decide_eq_true_eq]
      omega
    · have h3 : a = b := UInt8.toNat_inj.1 hc
      subst h3
      have h4 : ¬ a < a := by rw [hlt]; omega
      simp only [h4, decide_false, Bool.false_or, BEq.rfl, Bool.true_and]
      congr 1
      apply propext
      omega
    · have h3 : ¬ a < b := by rw [hlt]; omega
      have h4 : (a == b) = false := by rw [beq_eq_false_iff_ne]; intro e; subst e; omega
      have : (0 * 10 + ((b.toNat : Int) - 48) + 1) * P ≤ (0 * 10 + ((a.toNat : Int) - 48)) * P := Int.mul_le_mul_of_nonneg_right (by omega) (by omega)
      rw [Int.add_mul] at this
      simp only [h3, h4, decide_false, Bool.false_or, Bool.false_and]
      symm
      rw [decide_eq_false_iff_not]
      omega
theorem digs_len {n : Int} (h : 0 ≤ n) (h' : n < 2 ^ 63) : n < 10 ^ (digs 20 n []).length ∧ 1 ≤ (digs 20 n []).length ∧ (0 < n → 10 ^ ((digs 20 n []).length - 1) ≤ n) ∧ (n = 0 → (digs 20 n []).length = 1) := by
  obtain ⟨h1, h2⟩ := valD_digs 20 n h (lt20 h')
  obtain ⟨_, _, h3⟩ := valD_eq (digs 20 n []) 0 h2
  rw [h1] at h3
  by_cases hz : n = 0
  · subst hz; exact ⟨h3, by decide, fun h => by omega, fun _ => rfl⟩
  · obtain ⟨b, r, g1, g2, g3⟩ := digs_head 20 n (by omega) (lt20 h')
    refine ⟨h3, by rw [g1]; simp, fun _ => ?_, fun h => absurd h hz⟩
    rw [g1] at h1 h2 ⊢
    have hr : allD r := fun c hc => h2 c (by simp [hc])
    obtain ⟨e1, p1, p2⟩ := valD_eq r (0 * 10 + ((b.toNat : Int) - 48)) hr
    simp only [valD] at h1
    rw [e1] at h1
    have hp : (0 : Int) < 10 ^ r.length := Int.pow_pos (by decide)
    have : 1 * (10 : Int) ^ r.length ≤ (0 * 10 + ((b.toNat : Int) - 48)) * 10 ^ r.length := Int.mul_le_mul_of_nonneg_right (by omega) (by omega)
    simp only [List.length_cons, Nat.add_sub_cancel]
    omega
theorem pow_mono {a b : Nat} (h : a ≤ b) : (10 : Int) ^ a ≤ 10 ^ b := by
  obtain ⟨c, rfl⟩ := Nat.exists_eq_add_of_le h
  rw [Int.pow_add]
  have h1 : (0 : Int) < 10 ^ a := Int.pow_pos (by decide)
  have h2 : (0 : Int) < 10 ^ c := Int.pow_pos (by decide)
  have : (10 : Int) ^ a * 1 ≤ 10 ^ a * 10 ^ c := Int.mul_le_mul_of_nonneg_left (by omega) (by omega)
  omega
/-- Fewer digits, or as many and less in the order of texts. -/
theorem num_less {n m : Int} (h : 0 ≤ n) (h' : n < 2 ^ 63) (g : 0 ≤ m) (g' : m < 2 ^ 63) :
    ((numT n).size < (numT m).size → n < m) ∧ ((numT m).size < (numT n).size → m < n) ∧ ((numT n).size = (numT m).size → Op.bytesLess (numT n).toList (numT m).toList = decide (n < m)) := by
  have key : ∀ n m : Int, 0 ≤ n → n < 2 ^ 63 → 0 ≤ m → m < 2 ^ 63 → (digs 20 n []).length < (digs 20 m []).length → n < m := by
    intro n m h h' g g' hl
    obtain ⟨a1, a2, a3, a4⟩ := digs_len h h'
    obtain ⟨b1, b2, b3, b4⟩ := digs_len g g'
    by_cases hz : m = 0
    · have := b4 hz; omega
    · have h1 := b3 (by omega)
      have h2 := pow_mono (a := (digs 20 n []).length) (b := (digs 20 m []).length - 1) (by omega)
      omega
  rw [toList_eq, toList_eq, ← size_eq, ← size_eq, numT_data h, numT_data g]
  refine ⟨key n m h h' g g', key m n g g' h h', fun hl => ?_⟩
  obtain ⟨h1, h2⟩ := valD_digs 20 n h (lt20 h')
  obtain ⟨g1, g2⟩ := valD_digs 20 m g (lt20 g')
  rw [lex_val _ _ hl h2 g2, h1, g1]
theorem num_zero {n : Int} (h : 0 ≤ n) (h' : n < 2 ^ 63) (b : UInt8) (hb : (numT n).data.toList[0]? = some b) (h0 : b = 48) : n = 0 := by
  rw [numT_data h] at hb
  by_cases hz : n = 0
  · exact hz
  · obtain ⟨c, r, h1, h2, _⟩ := digs_head 20 n (by omega) (lt20 h')
    rw [h1] at hb
    simp at hb
    subst hb h0
    exact absurd h2 (by decide)
theorem num_pos {n : Int} (h : 0 ≤ n) (h' : n < 2 ^ 63) : 1 ≤ (numT n).size := by
  rw [← size_eq, numT_data h]; exact (digs_len h h').2.1

end Go.Proofs.YtkihnmpjpbfiaaaDoor.Mine
