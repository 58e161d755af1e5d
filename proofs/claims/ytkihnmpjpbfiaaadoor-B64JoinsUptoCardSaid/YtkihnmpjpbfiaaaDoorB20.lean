/- Plain laws of base 64 and hex. -/
import Derived.Test.YtkihnmpjpbfiaaaDoorB19
set_option linter.unusedVariables false
set_option linter.unusedSimpArgs false
namespace Go.Proofs.YtkihnmpjpbfiaaaDoor.Mine
open Go Go.Proofs.YtkihnmpjpbfiaaaDoor.Ev Go.Proofs
set_option maxRecDepth 100000

/-! ### Plain laws: base 64 -/
theorem e64_append : ∀ (l r : List UInt8), l.length % 3 = 0 → e64 (l ++ r) = e64 l ++ e64 r
  | [], r, _ => rfl
  | [_], _, h => by simp at h
  | [_, _], _, h => by simp at h
  | a :: b :: c :: l, r, h => by
    simp only [List.cons_append, e64]
    rw [e64_append l r (by simp only [List.length_cons] at h; omega)]
theorem encL4_append : ∀ (l r : List UInt8), encL 4 Hx.tb (l ++ r) = encL 4 Hx.tb l ++ encL 4 Hx.tb r
  | [], r => by simp [encL, grp]
  | b :: l, r => by rw [List.cons_append, encL4_cons, encL4_cons, encL4_append l r]; rfl
theorem data_app (s t : ByteArray) : (s ++ t).data.toList = s.data.toList ++ t.data.toList := by
  rw [ByteArray.data_append, Array.toList_append]
theorem encS_data (s : ByteArray) : (encS s).data.toList = e64 s.data.toList := by rw [encS_e64]
theorem hexS_data (s : ByteArray) : (hexS s).data.toList = encL 4 Hx.tb s.data.toList := rfl
theorem encS_append {s t : ByteArray} (h : s.size % 3 = 0) : encS (s ++ t) = encS s ++ encS t := by
  apply ext_data
  rw [encS_data, data_app, data_app, encS_data, encS_data, e64_append _ _ (by rw [size_eq]; exact h)]
theorem hexS_append (s t : ByteArray) : hexS (s ++ t) = hexS s ++ hexS t := by
  apply ext_data
  rw [hexS_data, data_app, data_app, hexS_data, hexS_data, encL4_append]
theorem encS_size (s : ByteArray) : (encS s).size = (s.size + 2) / 3 * 4 := by
  rw [← size_eq, encS_data, REnc.e64_len, size_eq]
theorem encL4_len : ∀ l : List UInt8, (encL 4 Hx.tb l).length = 2 * l.length
  | [] => rfl
  | b :: l => by rw [encL4_cons, List.length_cons, List.length_cons, encL4_len l, List.length_cons]; omega
theorem hexS_size (s : ByteArray) : (hexS s).size = 2 * s.size := by
  rw [← size_eq, hexS_data, encL4_len, size_eq]

theorem dg_d64 : ∀ n : Nat, n < 64 → dg (d64 n) = n := by decide +kernel
theorem d64_ne : ∀ n : Nat, n < 64 → d64 n ≠ 61 := by decide +kernel
theorem hv_tb : ∀ n : Nat, n < 16 → hv (tbAt Hx.tb n) = n := by decide +kernel
theorem hv_back : ∀ n : Nat, n < 256 → 0 ≤ hv (UInt8.ofNat n) → tbAt Hx.tb (hv (UInt8.ofNat n)).toNat = UInt8.ofNat n := by decide +kernel
theorem hv_inv {b : UInt8} (h : 0 ≤ hv b) : tbAt Hx.tb (hv b).toNat = b := by
  have := hv_back b.toNat b.toNat_lt
  rw [UInt8.ofNat_toNat] at this
  exact this h

theorem unhT_enc : ∀ l : List UInt8, unhT (encL 4 Hx.tb l) = some l
  | [] => rfl
  | b :: l => by
    have hb := b.toNat_lt
    rw [encL4_cons]
    simp only [unhT]
    rw [hv_tb _ (by omega), hv_tb _ (by omega), if_neg (by omega), unhT_enc l]
    simp only
    congr 2
    have e : (16 * ((b.toNat / 16 : Nat) : Int) + ((b.toNat % 16 : Nat) : Int)).toNat = b.toNat := by omega
    rw [e, UInt8.ofNat_toNat]
theorem unhT_inv : ∀ {l v : List UInt8}, unhT l = some v → encL 4 Hx.tb v = l
  | [], v, h => by simp only [unhT] at h; cases h; rfl
  | [_], v, h => by simp [unhT] at h
  | a :: b :: r, v, h => by
    simp only [unhT] at h
    split at h
    · cases h
    · rename_i hn
      split at h
      · rename_i w hw
        cases h
        have ha := hv_lt a
        have hb := hv_lt b
        have hu : (UInt8.ofNat (16 * hv a + hv b).toNat).toNat = (16 * hv a + hv b).toNat := by rw [UInt8.toNat_ofNat']; omega
        rw [encL4_cons, hu, unhT_inv hw]
        have e1 : (16 * hv a + hv b).toNat / 16 = (hv a).toNat := by omega
        have e2 : (16 * hv a + hv b).toNat % 16 = (hv b).toNat := by omega
        rw [e1, e2, hv_inv (by omega), hv_inv (by omega)]
      · cases h
theorem un_hex (s : ByteArray) : unN (hexS s) = s ∧ unB (hexS s) = true := by
  have : unhT (hexS s).data.toList = some s.data.toList := by rw [hexS_data]; exact unhT_enc _
  exact ⟨by unfold unN; rw [this]; rfl, by unfold unB; rw [this]; rfl⟩
theorem hex_un {s : ByteArray} (h : unB s = true) : hexS (unN s) = s := by
  unfold unB at h
  obtain ⟨v, hv⟩ := Option.isSome_iff_exists.1 h
  apply ext_data
  rw [hexS_data]
  have : (unN s).data.toList = v := by unfold unN; rw [hv]; rfl
  rw [this, unhT_inv hv]
theorem unhT_len : ∀ {l v : List UInt8}, unhT l = some v → v.length ≤ l.length := fun {l v} h => by
  have := congrArg List.length (unhT_inv h)
  rw [encL4_len] at this; omega

/-! ### What is written is read -/
theorem grp_lt : ∀ (l : List UInt8) (n h : Nat), h < 6 → ∀ x, x ∈ grp 8 6 l n h → x < 64
  | [], n, h, hh, x, hx => by
    simp only [grp] at hx
    split at hx
    · simp at hx; omega
    · simp at hx
  | b :: r, n, h, hh, x, hx => by
    simp only [grp, List.mem_append] at hx
    rcases hx with hx | hx
    · have : ∀ k h, x ∈ outs 6 (n * 2 ^ 8 + b.toNat) k h → x < 64 := by
        intro k
        induction k with
        | zero => intro h hx; simp [outs] at hx
        | succ k ih =>
          intro h hx
          simp only [outs] at hx
          split at hx
          · rcases List.mem_cons.1 hx with rfl | hx
            · omega
            · exact ih _ hx
          · simp at hx
      exact this _ _ hx
    · exact grp_lt r _ _ (Nat.mod_lt _ (by decide)) x hx
theorem grp4 (x y z u : Nat) (r : List UInt8) (hx : x < 64) (hy : y < 64) (hz : z < 64) (hu : u < 64) :
    grp 6 8 (UInt8.ofNat x :: UInt8.ofNat y :: UInt8.ofNat z :: UInt8.ofNat u :: r) 0 0 = (x * 4 + y / 16) :: (y % 16 * 16 + z / 4) :: (z % 4 * 64 + u) :: grp 6 8 r 0 0 := by
  have ex : (UInt8.ofNat x).toNat = x := by rw [UInt8.toNat_ofNat']; omega
  have ey : (UInt8.ofNat y).toNat = y := by rw [UInt8.toNat_ofNat']; omega
  have ez : (UInt8.ofNat z).toNat = z := by rw [UInt8.toNat_ofNat']; omega
  have eu : (UInt8.ofNat u).toNat = u := by rw [UInt8.toNat_ofNat']; omega
  simp only [grp, ex, ey, ez, eu, outs]
  simp
  refine ⟨by omega, by omega, by omega, ?_⟩
  rw [Nat.mod_one]
theorem grpA (x y : Nat) (hx : x < 64) (hy : y < 64) : ∃ t, grp 6 8 [UInt8.ofNat x, UInt8.ofNat y] 0 0 = (x * 4 + y / 16) :: t := by
  have ex : (UInt8.ofNat x).toNat = x := by rw [UInt8.toNat_ofNat']; omega
  have ey : (UInt8.ofNat y).toNat = y := by rw [UInt8.toNat_ofNat']; omega
  simp only [grp, ex, ey, outs]
  simp
  omega
theorem grpB (x y z : Nat) (hx : x < 64) (hy : y < 64) (hz : z < 64) : ∃ t, grp 6 8 [UInt8.ofNat x, UInt8.ofNat y, UInt8.ofNat z] 0 0 = (x * 4 + y / 16) :: (y % 16 * 16 + z / 4) :: t := by
  have ex : (UInt8.ofNat x).toNat = x := by rw [UInt8.toNat_ofNat']; omega
  have ey : (UInt8.ofNat y).toNat = y := by rw [UInt8.toNat_ofNat']; omega
  have ez : (UInt8.ofNat z).toNat = z := by rw [UInt8.toNat_ofNat']; omega
  simp only [grp, ex, ey, ez, outs]
  simp
  omega
theorem grp1 (a : UInt8) : grp 8 6 [a] 0 0 = [a.toNat / 4, a.toNat % 4 * 16] := by
  have ha := a.toNat_lt
  simp [grp, outs]; omega
theorem grp2 (a b : UInt8) : grp 8 6 [a, b] 0 0 = [a.toNat / 4, a.toNat % 4 * 16 + b.toNat / 16, b.toNat % 16 * 4] := by
  have ha := a.toNat_lt
  have hb := b.toNat_lt
  simp [grp, outs]; omega
theorem bt_eq {x : Nat} {u : UInt8} (h : x = u.toNat) : Dec.bt x = u := by rw [h]; simp [Dec.bt]
theorem back_grp : ∀ l : List UInt8, ((grp 6 8 ((grp 8 6 l 0 0).map UInt8.ofNat) 0 0).map Dec.bt).take ((grp 8 6 l 0 0).length * 6 / 8) = l
  | [] => rfl
  | [a] => by
    have ha := a.toNat_lt
    rw [grp1]
    obtain ⟨t, ht⟩ := grpA (a.toNat / 4) (a.toNat % 4 * 16) (by omega) (by omega)
    simp only [List.map_cons, List.map_nil, ht, List.length_cons, List.length_nil]
    rw [bt_eq (u := a) (by omega)]
    rfl
  | [a, b] => by
    have ha := a.toNat_lt
    have hb := b.toNat_lt
    rw [grp2]
    obtain ⟨t, ht⟩ := grpB (a.toNat / 4) (a.toNat % 4 * 16 + b.toNat / 16) (b.toNat % 16 * 4) (by omega) (by omega) (by omega)
    simp only [List.map_cons, List.map_nil, ht, List.length_cons, List.length_nil]
    rw [bt_eq (u := a) (by omega), bt_eq (u := b) (by omega)]
    rfl
  | a :: b :: c :: r => by
    have ha := a.toNat_lt
    have hb := b.toNat_lt
    have hc := c.toNat_lt
    rw [grp3]
    simp only [List.map_cons, List.length_cons]
    rw [grp4 _ _ _ _ _ (by omega) (by omega) (by omega) (by omega)]
    have e : ((grp 8 6 r 0 0).length + 1 + 1 + 1 + 1) * 6 / 8 = (grp 8 6 r 0 0).length * 6 / 8 + 1 + 1 + 1 := by omega
    rw [e]
    simp only [List.map_cons, List.take_succ_cons]
    rw [back_grp r]
    rw [bt_eq (u := a) (by omega), bt_eq (u := b) (by omega), bt_eq (u := c) (by omega)]

theorem vals_map : ∀ gs : List Nat, (∀ x, x ∈ gs → x < 64) → valsT (gs.map d64) = some (gs.map UInt8.ofNat)
  | [], _ => rfl
  | x :: gs, h => by
    simp only [List.map_cons, valsT]
    rw [dg_d64 x (h x (by simp)), if_neg (by omega), vals_map gs (fun y hy => h y (by simp [hy]))]
    simp
theorem trim_map (gs : List Nat) (k : Nat) (h : ∀ x, x ∈ gs → x < 64) : trimL (gs.map d64 ++ List.replicate k 61) 61 = gs.map d64 := by
  induction k with
  | zero =>
    rw [List.replicate_zero, List.append_nil]
    rcases List.eq_nil_or_concat gs with rfl | ⟨l, x, rfl⟩
    · rfl
    · rw [List.concat_eq_append, List.map_append, List.map_singleton, trim_snoc, if_neg (d64_ne x (h x (by simp)))]
  | succ k ih =>
    rw [List.replicate_succ', ← List.append_assoc, trim_snoc, if_pos rfl, ih]
theorem dec_enc (s : ByteArray) : decT (encS s) = some s := by
  have hg : ∀ x, x ∈ grp 8 6 s.data.toList 0 0 → x < 64 := grp_lt _ 0 0 (by decide)
  have h1 : (trimS (encS s) 61).data.toList = (grp 8 6 s.data.toList 0 0).map d64 := by
    unfold trimS encS
    rw [mk_data, mk_data]
    exact trim_map _ _ hg
  have h2 : valsT (trimS (encS s) 61).data.toList = some ((grp 8 6 s.data.toList 0 0).map UInt8.ofNat) := by rw [h1, vals_map _ hg]
  have h3 : decO ((grp 8 6 s.data.toList 0 0).map UInt8.ofNat) = s := by
    apply ext_data
    unfold decO
    rw [mk_data, List.length_map]
    exact back_grp _
  simp only [decT, h2, h3, if_true]
theorem dec_back (s : ByteArray) : decN (encS s) = s ∧ decB (encS s) = true := by
  unfold decN decB; rw [dec_enc]; exact ⟨rfl, rfl⟩
theorem dec_some {s t : ByteArray} (h : decT s = some t) : encS t = s := by
  unfold decT at h
  split at h
  · cases h
  · split at h
    · rename_i h2; cases h; exact h2
    · cases h
theorem enc_dec {s : ByteArray} (h : decB s = true) : encS (decN s) = s := by
  unfold decB at h
  obtain ⟨t, ht⟩ := Option.isSome_iff_exists.1 h
  unfold decN; rw [ht]; exact dec_some ht
theorem e64_inj {s t : ByteArray} (h : encS s = encS t) : s = t := by
  have := dec_enc s
  rw [h, dec_enc] at this
  cases this; rfl

/-! ### The two readers agree -/
theorem vv_d64 {n : Nat} (h : n < 64) : RDec.vv (d64 n) = n := by unfold RDec.vv; rw [dg_d64 n h]; omega
theorem chunk4 {x y z u : Nat} (r : List UInt8) (hx : x < 64) (hy : y < 64) (hz : z < 64) (hu : u < 64) :
    RDec.chunk (d64 x :: d64 y :: d64 z :: d64 u :: r) = [UInt8.ofNat ((((x * 64 + y) * 64 + z) * 64 + u) / 65536), UInt8.ofNat ((((x * 64 + y) * 64 + z) * 64 + u) / 256), UInt8.ofNat (((x * 64 + y) * 64 + z) * 64 + u)] := by
  simp [RDec.chunk, RDec.g3, RDec.nv, RDec.mv, vv_d64 hx, vv_d64 hy, vv_d64 hz, vv_d64 hu, dg_d64 x hx, dg_d64 y hy, dg_d64 z hz, dg_d64 u hu]
theorem chunk3 {x y z : Nat} (r : List UInt8) (hx : x < 64) (hy : y < 64) (hz : z < 64) :
    RDec.chunk (d64 x :: d64 y :: d64 z :: 61 :: r) = [UInt8.ofNat ((((x * 64 + y) * 64 + z) * 64) / 65536), UInt8.ofNat ((((x * 64 + y) * 64 + z) * 64) / 256)] := by
  have h61 : RDec.vv 61 = 0 := by decide
  have d61 : ¬ (0 ≤ dg 61) := by decide
  simp [RDec.chunk, RDec.g3, RDec.nv, RDec.mv, vv_d64 hx, vv_d64 hy, vv_d64 hz, dg_d64 x hx, dg_d64 y hy, dg_d64 z hz, h61, d61]
theorem chunk2 {x y : Nat} (r : List UInt8) (hx : x < 64) (hy : y < 64) :
    RDec.chunk (d64 x :: d64 y :: 61 :: 61 :: r) = [UInt8.ofNat ((((x * 64 + y) * 64) * 64) / 65536)] := by
  have h61 : RDec.vv 61 = 0 := by decide
  have d61 : ¬ (0 ≤ dg 61) := by decide
  simp [RDec.chunk, RDec.g3, RDec.nv, RDec.mv, vv_d64 hx, vv_d64 hy, dg_d64 x hx, dg_d64 y hy, h61, d61]
theorem rc_e64 : ∀ l : List UInt8, RDec.rc (e64 l) = l
  | [] => rfl
  | [a] => by
    have ha := a.toNat_lt
    show RDec.chunk _ ++ RDec.rc [] = _
    rw [chunk2 [] (by omega) (by omega)]
    have e : ((a.toNat / 4 * 64 + a.toNat % 4 * 16) * 64) * 64 / 65536 = a.toNat := by omega
    rw [e]; simp [RDec.rc]
  | [a, b] => by
    have ha := a.toNat_lt
    have hb := b.toNat_lt
    show RDec.chunk _ ++ RDec.rc [] = _
    rw [chunk3 [] (by omega) (by omega) (by omega)]
    have e : (((a.toNat / 4 * 64 + (a.toNat % 4 * 16 + b.toNat / 16)) * 64 + b.toNat % 16 * 4) * 64) / 65536 = a.toNat := by omega
    have f : (((a.toNat / 4 * 64 + (a.toNat % 4 * 16 + b.toNat / 16)) * 64 + b.toNat % 16 * 4) * 64) / 256 = a.toNat * 256 + b.toNat := by omega
    have g : UInt8.ofNat (a.toNat * 256 + b.toNat) = b := by apply UInt8.toNat_inj.1; rw [UInt8.toNat_ofNat']; omega
    rw [e, f, g]; simp [RDec.rc]
  | a :: b :: c :: r => by
    have ha := a.toNat_lt
    have hb := b.toNat_lt
    have hc := c.toNat_lt
    show RDec.chunk _ ++ RDec.rc (e64 r) = _
    rw [chunk4 _ (by omega) (by omega) (by omega) (by omega), rc_e64 r]
    have e : (((a.toNat / 4 * 64 + (a.toNat % 4 * 16 + b.toNat / 16)) * 64 + (b.toNat % 16 * 4 + c.toNat / 64)) * 64 + c.toNat % 64) / 65536 = a.toNat := by omega
    have f : (((a.toNat / 4 * 64 + (a.toNat % 4 * 16 + b.toNat / 16)) * 64 + (b.toNat % 16 * 4 + c.toNat / 64)) * 64 + c.toNat % 64) / 256 = a.toNat * 256 + b.toNat := by omega
    have f2 : (((a.toNat / 4 * 64 + (a.toNat % 4 * 16 + b.toNat / 16)) * 64 + (b.toNat % 16 * 4 + c.toNat / 64)) * 64 + c.toNat % 64) = (a.toNat * 256 + b.toNat) * 256 + c.toNat := by omega
    have g : UInt8.ofNat (a.toNat * 256 + b.toNat) = b := by apply UInt8.toNat_inj.1; rw [UInt8.toNat_ofNat']; omega
    have g2 : UInt8.ofNat ((a.toNat * 256 + b.toNat) * 256 + c.toNat) = c := by apply UInt8.toNat_inj.1; rw [UInt8.toNat_ofNat']; omega
    rw [e, f, f2, g, g2]; simp
theorem rd_enc (s : ByteArray) : RDec.rdT (encS s) = some s := by
  have : RDec.rcS (encS s) = s := by
    apply ext_data
    unfold RDec.rcS
    rw [mk_data, encS_data, rc_e64]
  unfold RDec.rdT
  rw [this, if_pos rfl]
theorem dec_eq (s : ByteArray) : decT s = RDec.rdT s := by
  by_cases h : ∃ t, encS t = s
  · obtain ⟨t, rfl⟩ := h
    rw [dec_enc, rd_enc]
  · have h1 : decT s = none := by
      cases hd : decT s with
      | none => rfl
      | some t => exact absurd ⟨t, dec_some hd⟩ h
    have h2 : RDec.rdT s = none := by
      unfold RDec.rdT
      rw [if_neg fun e => h ⟨_, e⟩]
    rw [h1, h2]

end Go.Proofs.YtkihnmpjpbfiaaaDoor.Mine
