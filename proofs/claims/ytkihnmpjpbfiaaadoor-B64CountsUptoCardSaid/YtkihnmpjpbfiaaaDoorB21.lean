/- The laws' walks. -/
import Derived.Test.YtkihnmpjpbfiaaaDoorB20N
set_option linter.unusedVariables false
set_option linter.unusedSimpArgs false
namespace Go.Proofs.YtkihnmpjpbfiaaaDoor.Mine
open Go Go.Proofs.YtkihnmpjpbfiaaaDoor.Ev Go.Proofs
set_option maxRecDepth 100000

theorem ext_size (s : ByteArray) {c : Nat} (h : c ≤ s.size) : (s.extract 0 c).size = c := by
  rw [← size_eq, extract_data, List.drop_zero, List.length_take, size_eq]; omega
theorem joins_walk (s t : ByteArray) (h1 : s.size ≤ 2 ^ 21) (h2 : t.size ≤ 2 ^ 21) : awp CLw how0 (bodyOf Tryd.f3) ⟨[.str s, .str t] ++ List.replicate 38 .u, [], []⟩ (finA CLw.P Tryd.f3 0 (.b true) []) := by
  rw [joins_vc]
  simp only [true_and, and_true, decide_eq_true_eq, decide_eq_false_iff_not, beq_iff_eq, beq_eq_false_iff_ne, bne_iff_ne, bne_eq_false_iff_eq, List.drop_zero, List.take_length, Nat.zero_add]
  have e1 : ((s.size : Int)).tdiv 3 = ((s.size / 3 : Nat) : Int) := by rw [Int.tdiv_eq_ediv_of_nonneg (by omega)]; omega
  have e2 : IntKind.wrap .i64 (((s.size / 3 : Nat) : Int) * 3) = ((s.size / 3 * 3 : Nat) : Int) := by rw [wrap64 (by omega) (by omega)]; omega
  rw [e1, wrapN (by omega), e2, Int.toNat_natCast]
  have hc : s.size / 3 * 3 ≤ s.size := by omega
  have hs := ext_size s hc
  generalize s.extract 0 (s.size / 3 * 3) = u at *
  have hu3 : u.size % 3 = 0 := by omega
  have hut : (u ++ t).size = u.size + t.size := by rw [← size_eq, data_app, List.length_append, size_eq, size_eq]
  have a1 := encS_size u
  have a2 := encS_size t
  have a3 := hexS_size u
  have a4 := hexS_size t
  rw [hut, encS_append hu3, hexS_append]
  refine ⟨⟨by rw [nn]; omega, Nat.zero_le _, hc⟩, by omega, by omega, by omega, by omega, by omega, fun _ => ⟨by omega, by omega, by omega, by omega, by omega, rfl⟩, fun h => absurd rfl h⟩
theorem texts_walk (s : ByteArray) (h1 : s.size ≤ 2 ^ 21) : awp CLw how0 (bodyOf Tryd.f5) ⟨[.str s] ++ List.replicate (Tryd.f5.ntmps - 1) .u, [], []⟩ (finA CLw.P Tryd.f5 0 (.b true) []) := by
  rw [texts_vc]
  simp only [true_and, and_true, decide_eq_true_eq, decide_eq_false_iff_not, beq_iff_eq, beq_eq_false_iff_ne, bne_iff_ne, bne_eq_false_iff_eq, List.drop_zero, List.take_length, Nat.zero_add]
  have d1 : decN s = RDec.rdN s := by unfold decN RDec.rdN; rw [dec_eq]
  have d2 : decB s = RDec.rdB s := by unfold decB RDec.rdB; rw [dec_eq]
  rw [d1, d2]
  have hs : s.size ≤ 1099511627776 := by omega
  simp [hs]
theorem numbers_walk (n : Int) (s : ByteArray) (h1 : s.size ≤ 2 ^ 21) (hn : n < 2 ^ 63) : awp CLw how0 (bodyOf Tryd.f6) ⟨[.i .i64 n, .str s] ++ List.replicate (Tryd.f6.ntmps - 2) .u, [], []⟩ (finA CLw.P Tryd.f6 0 (.b true) []) := by
  rw [numbers_vc]
  simp only [true_and, and_true, decide_eq_true_eq, decide_eq_false_iff_not, beq_iff_eq, beq_eq_false_iff_ne, bne_iff_ne, bne_eq_false_iff_eq, List.drop_zero, List.take_length, Nat.zero_add]
  obtain ⟨d1, d2⟩ := tn_eq s
  rw [d1, d2]
  have hs : s.size ≤ 1099511627776 := by omega
  have hn' : n < 9223372036854775808 := by omega
  simp [hs, hn']
theorem unN_size {s : ByteArray} (h : unB s = true) : (unN s).size ≤ s.size := by
  have := congrArg ByteArray.size (hex_un h)
  rw [hexS_size] at this; omega
theorem decN_size {s : ByteArray} (h : decB s = true) : (decN s).size ≤ s.size := by
  have := congrArg ByteArray.size (enc_dec h)
  rw [encS_size] at this; omega
theorem back_walk (s : ByteArray) (h1 : s.size ≤ 2 ^ 21) : awp CLw how0 (bodyOf Tryd.f7) ⟨[.str s] ++ List.replicate (Tryd.f7.ntmps - 1) .u, [], []⟩ (finA CLw.P Tryd.f7 0 (.b true) []) := by
  rw [back_vc]
  simp only [true_and, and_true, decide_eq_true_eq, decide_eq_false_iff_not, beq_iff_eq, beq_eq_false_iff_ne, bne_iff_ne, bne_eq_false_iff_eq, List.drop_zero, List.take_length, Nat.zero_add]
  obtain ⟨d1, d2⟩ := dec_back s
  obtain ⟨u1, u2⟩ := un_hex s
  have a1 := encS_size s
  have a2 := hexS_size s
  rw [d1, d2, u1, u2]
  have w1 : IntKind.wrap .i64 ((s.size : Int) + 2) = ((s.size + 2 : Nat) : Int) := by rw [wrap64 (by omega) (by omega)]; omega
  have w2 : (((s.size + 2 : Nat) : Int)).tdiv 3 = (((s.size + 2) / 3 : Nat) : Int) := by rw [Int.tdiv_eq_ediv_of_nonneg (by omega)]; omega
  have w3 : IntKind.wrap .i64 ((((s.size + 2) / 3 : Nat) : Int) * 4) = (((s.size + 2) / 3 * 4 : Nat) : Int) := by rw [wrap64 (by omega) (by omega)]; omega
  have w4 : IntKind.wrap .i64 (2 * (s.size : Int)) = ((2 * s.size : Nat) : Int) := by rw [wrap64 (by omega) (by omega)]; omega
  rw [w1, w2, wrapN (by omega), w3, w4, a1, a2]
  have hun : (!unB s) = false → (unN s).size ≤ 1099511627776 ∧ (hexS (unN s)).toList = s.toList := fun h => by
    have h' : unB s = true := by simpa using h
    have := unN_size h'
    exact ⟨by omega, by rw [hex_un h']⟩
  refine ⟨by omega, by omega, by omega, by omega, by omega, by omega, fun _ => ⟨fun _ => ⟨fun _ => ⟨fun _ => ⟨fun _ => ⟨fun _ => ⟨fun h => ?_, fun _ => ⟨hun, fun _ => trivial⟩⟩, fun h => absurd rfl h⟩, fun h => absurd rfl h⟩, fun h => (by cases h)⟩, fun h => absurd rfl h⟩, fun h => (by cases h)⟩, fun h => absurd rfl h⟩
  have h' : decB s = true := by simpa using h
  have := decN_size h'
  exact ⟨by omega, fun _ => ⟨hun, fun _ => trivial⟩, fun hne => absurd (by rw [enc_dec h']) hne⟩
theorem counts_walk (n m : Int) (hn : n < 2 ^ 63) (hm : m < 2 ^ 63) : awp CLw how0 (bodyOf Tryd.f8) ⟨[.i .i64 n, .i .i64 m] ++ List.replicate (Tryd.f8.ntmps - 2) .u, [], []⟩ (finA CLw.P Tryd.f8 0 (.b true) []) := by
  rw [counts_vc]
  by_cases hn0 : 0 ≤ n
  · obtain ⟨t1, t2⟩ := tn_num hn0 hn
    have hp := num_pos hn0 hn
    have hn2 : decide (n ≥ 0) = true := by simpa using hn0
    have hmin : (if (1 : Int) < ((numT n).size : Int) then (1 : Int) else ((numT n).size : Int)) = 1 := by split <;> omega
    have hn63 : n < 9223372036854775808 := by omega
    have hm63 : m < 9223372036854775808 := by omega
    have hz : (numT n).extract 0 1 = ⟨#[48]⟩ → n = 0 := fun h => by
      have h' := congrArg (fun s : ByteArray => s.data.toList[0]?) h
      simp only [extract_data, List.drop_zero] at h'
      refine num_zero hn0 hn 48 ?_ rfl
      rw [List.getElem?_take_of_lt (by decide)] at h'
      rw [h']; rfl
    have hz' : ((numT n).extract 0 1).toList = [ByteArray.get! ⟨#[48]⟩ 0] → n = 0 := fun h => hz (toList_inj (by rw [h, toList_eq]; rfl))
    have hx : (2 : Int) ^ 62 = 4611686018427387904 := by decide
    rw [hx] at t1 t2
    have hp1 : 1 ≤ (numT n).size := hp
    simp only [true_and, and_true, hmin, nn]
    have i1 : ((1 : Int)).toNat = 1 := rfl
    rw [i1]
    by_cases hm0 : 0 ≤ m
    · obtain ⟨g1, g2, g3⟩ := num_less hn0 hn hm0 hm
      have hm2 : decide (m ≥ 0) = true := by simpa using hm0
      refine ⟨hn63, hm63, ?_⟩
      rcases Nat.lt_trichotomy (numT n).size (numT m).size with hc | hc | hc
      · have hlt := g1 hc
        have c1 : decide (((numT n).size : Int) < ((numT m).size : Int)) = true := by simpa using hc
        rw [c1, t1]
        by_cases hq : n ≤ 4611686018427387904
        · simp [hn0, hm0, hq, t2 hq, hlt, hp1] <;> exact hz'
        · simp [hn0, hm0, hq, hlt, hp1] <;> exact hz'
      · have hb := g3 hc
        have c1 : decide (((numT n).size : Int) < ((numT m).size : Int)) = false := by simp; omega
        rw [c1, t1, hb]
        by_cases hq : n ≤ 4611686018427387904
        · simp [hn0, hm0, hq, t2 hq, hc, hp1] <;> exact ⟨by omega, hz'⟩
        · simp [hn0, hm0, hq, hc, hp1] <;> exact ⟨by omega, hz'⟩
      · have hlt := g2 hc
        have c1 : decide (((numT n).size : Int) < ((numT m).size : Int)) = false := by simp; omega
        rw [c1, t1]
        by_cases hq : n ≤ 4611686018427387904
        · simp [hn0, hm0, hq, t2 hq, hc, hp1] <;> exact ⟨fun h => by omega, fun _ => ⟨fun _ => hz', by omega⟩⟩
        · simp [hn0, hm0, hq, hc, hp1] <;> exact ⟨fun h => by omega, fun _ => ⟨fun _ => hz', by omega⟩⟩
    · refine ⟨hn63, hm63, ?_⟩
      rw [t1]
      by_cases hq : n ≤ 4611686018427387904
      · simp [hn0, hm0, hq, t2 hq, hp1]
        exact ⟨fun _ => hz', fun _ => hz'⟩
      · simp [hn0, hm0, hq, hp1]
        exact ⟨fun _ => hz', fun _ => hz'⟩
  · have he : numT n = .empty := by unfold numT; rw [if_pos (by omega)]
    have hn63 : n < 9223372036854775808 := by omega
    have hm63 : m < 9223372036854775808 := by omega
    have hel : (ByteArray.empty).toList = [] := by rw [toList_eq]; rfl
    have hd : decide (n ≥ 0) = false := by simpa using hn0
    simp only [true_and, and_true]
    refine ⟨hn63, hm63, ?_⟩
    rw [he]
    simp [hn0, hel]
    omega

end Go.Proofs.YtkihnmpjpbfiaaaDoor.Mine
