/- What an operation does, by its abstract account: numbers, texts, tests, slices, new memory. -/
import Derived.Test.YtkihnmpjpbfiaaaDoorEv4
import Derived.Laws.StructEq
import Derived.ChangeKeysEq
import Derived.Laws.BytesString
import Derived.Laws.Append
set_option linter.unusedVariables false
set_option linter.unusedSimpArgs false
namespace Go.Proofs.YtkihnmpjpbfiaaaDoor.Ev
open Go

section
variable {P : Program} {E : Env} {η : Eta} {H : Nat → AB} {D : Nat → Prop} {w : World} {fid : Nat}

theorem avInt_ok {x : AV} {k : IntKind} {a : Int} {v : Value} (h : avInt? x = some (k, a)) (m : Mat E η x v) : v = .int k a := by
  unfold avInt? at h
  split at h <;> first | (cases h; simp only [Mat] at m; exact m) | cases h
theorem avBool_ok {x : AV} {a : Bool} {v : Value} (h : avBool? x = some a) (m : Mat E η x v) : v = .bool a := by
  unfold avBool? at h
  split at h <;> first | (cases h; simp only [Mat] at m; exact m) | cases h
theorem mkInt_mat (b : Bool) (k : IntKind) (e : Int) : Mat E η (mkInt b k e) (.int k e) := by cases b <;> simp [mkInt, Mat]
theorem mkBool_mat (b : Bool) (e : Bool) : Mat E η (mkBool b e) (.bool e) := by cases b <;> simp [mkBool, Mat]

/-! ### Equal aggregates -/
def valEq : CK → Value → Value → Option Bool
  | .int k, .int k1 a, .int k2 b => if k1 = k ∧ k2 = k then some (a == b) else none
  | .str, .string a, .string b => some (a == b)
  | .bool, .bool a, .bool b => some (a == b)
  | _, _, _ => none
def valsEq : List CK → List Value → List Value → Option Bool
  | [], [], [] => some true
  | c :: s, x :: l, y :: m => match valEq c x y, valsEq s l m with
    | some a, some b => some (a && b)
    | _, _ => none
  | _, _, _ => none

theorem cellEq_ok {c : CK} {x y : AV} {r : Bool} {v u : Value} (h : cellEq c x y = some r) (m : Mat E η x v) (m' : Mat E η y u) : valEq c v u = some r := by
  unfold cellEq at h
  split at h
  · cases h
    simp only [Mat] at m m'; subst m; subst m'
    rfl
  · split at h
    · rename_i h1 h2
      split at h
      · rename_i hk
        cases h
        rw [avInt_ok h1 m, avInt_ok h2 m']
        simp [valEq, hk]
      · cases h
    · cases h
  · split at h
    · rename_i h1 h2
      cases h
      rw [avBool_ok h1 m, avBool_ok h2 m']
      simp [valEq]
    · cases h
  · cases h

theorem cellEq_nv {c : CK} {x y : AV} {r : Bool} (h : cellEq c x y = some r) : (∀ k n xs, x ≠ .vec k n xs) ∧ ∀ k n xs, y ≠ .vec k n xs := by
  constructor
  · rintro k n xs rfl; cases c <;> simp [cellEq, avInt?, avBool?] at h
  · rintro k n xs rfl
    cases c <;> simp [cellEq, avInt?, avBool?] at h

theorem cellsEq_ok : ∀ {s : List CK} {l m : List AV} {r : Bool} {cs ds : List Value}, cellsEq s l m = some r → MatC E η l cs → MatC E η m ds → valsEq s cs ds = some r
  | [], [], [], r, cs, ds, h, h1, h2 => by simp only [MatC] at h1 h2; subst h1; subst h2; exact h
  | [], _ :: _, _, _, _, _, h, _, _ => by simp [cellsEq] at h
  | [], [], _ :: _, _, _, _, h, _, _ => by simp [cellsEq] at h
  | _ :: _, [], _, _, _, _, h, _, _ => by simp [cellsEq] at h
  | _ :: _, _ :: _, [], _, _, _, h, _, _ => by simp [cellsEq] at h
  | c :: s, x :: l, y :: m, r, cs, ds, h, h1, h2 => by
    unfold cellsEq at h
    split at h
    · rename_i a b ha hb
      cases h
      have nv := cellEq_nv ha
      rw [matC_cons nv.1] at h1
      rw [matC_cons nv.2] at h2
      obtain ⟨v, c, rfl, _, m1, m2⟩ := h1
      obtain ⟨u, d, rfl, _, n1, n2⟩ := h2
      simp [valsEq, cellEq_ok ha m1 n1, cellsEq_ok hb m2 n2]
    · cases h

theorem valsEq_length : ∀ {s : List CK} {cs ds : List Value} {r : Bool}, valsEq s cs ds = some r → cs.length = s.length ∧ ds.length = s.length
  | [], [], [], _, _ => by simp
  | [], _ :: _, _, _, h => by simp [valsEq] at h
  | [], [], _ :: _, _, h => by simp [valsEq] at h
  | _ :: _, [], _, _, h => by simp [valsEq] at h
  | _ :: _, _ :: _, [], _, h => by simp [valsEq] at h
  | c :: s, x :: l, y :: m, r, h => by
    unfold valsEq at h
    split at h
    · rename_i a b ha hb
      have := valsEq_length hb
      simp [this]
    · cases h

theorem valsEq_split : ∀ {s t : List CK} {cs ds : List Value} {r : Bool}, valsEq (s ++ t) cs ds = some r →
    ∃ r1 r2, valsEq s (cs.take s.length) (ds.take s.length) = some r1 ∧ valsEq t (cs.drop s.length) (ds.drop s.length) = some r2 ∧ r = (r1 && r2)
  | [], t, cs, ds, r, h => ⟨true, r, by simp [valsEq], by simpa using h, by simp⟩
  | c :: s, t, [], _, _, h => by simp [valsEq] at h
  | c :: s, t, _ :: _, [], _, h => by simp [valsEq] at h
  | c :: s, t, x :: l, y :: m, r, h => by
    simp only [List.cons_append, valsEq] at h
    split at h
    · rename_i p q hp hq
      cases h
      obtain ⟨r1, r2, g1, g2, rfl⟩ := valsEq_split hq
      exact ⟨p && r1, r2, by simp [valsEq, hp, g1], by simpa using g2, by simp [Bool.and_assoc]⟩
    · cases h

/-- The value of a type whose cells these are. -/
def asVal (P : Program) (t : TypeId) (cs : List Value) : Value := match isAggT P t with
  | some true => .agg cs.toArray
  | _ => cs.headD undef

theorem run_part {t : TypeId} {b : Bool} {cs : Array Value} {off n : Nat} (h : isAggT P t = some b) (hn : P.cellsOf t = n) (hb : b = false → n = 1) (hl : off + n ≤ cs.size) :
    (part t cs off).run P w = .ok (asVal P t ((cs.toList.drop off).take n)) w := by
  obtain ⟨i, hi⟩ := info_of_isAgg h
  cases b with
  | true =>
    simp only [part, Sem.run_bind, run_isAgg h, Result.andThen_ok, if_true, run_sizeOf' hi, Sem.run_pure, asVal, h, hn]
    congr 2
    apply Array.ext'
    simp
  | false =>
    have := hb rfl; subst this
    have : cs[off]? = some cs[off] := by simp
    simp only [part, Sem.run_bind, run_isAgg h, Result.andThen_ok, Bool.false_eq_true, if_false, this, Sem.run_pure, asVal, h]
    congr 1
    rw [List.headD_eq_head?_getD, List.head?_take]
    simp [this]

theorem kindsT_agg {d : Nat} {t : TypeId} {s : List CK} (h : kindsT P d t = some s) : ∃ b, isAggT P t = some b ∧ (b = false → P.cellsOf t = 1) ∧ s.length = P.cellsOf t := by
  cases d with
  | zero => simp [kindsT] at h
  | succ d =>
    unfold kindsT at h
    split at h
    · rename_i hu; split at h <;> cases h; exact ⟨false, by simp [isAggT, hu], fun _ => by assumption, by simp [*]⟩
    · rename_i hu; split at h <;> cases h; exact ⟨false, by simp [isAggT, hu], fun _ => by assumption, by simp [*]⟩
    · rename_i hu; split at h <;> cases h; exact ⟨false, by simp [isAggT, hu], fun _ => by assumption, by simp [*]⟩
    · rename_i hu
      split at h
      · split at h
        · rename_i hc; cases h
          exact ⟨true, by simp [isAggT, hu], by simp, by simp [hc]⟩
        · cases h
      · cases h
    · rename_i hu
      split at h
      · split at h
        · rename_i hc; cases h
          exact ⟨true, by simp [isAggT, hu], by simp, hc.1⟩
        · cases h
      · cases h
    · cases h

def stepK (P : Program) (d : Nat) (o : Option (List CK)) (f : Field) : Option (List CK) :=
  match o with
  | some l => match kindsT P d f.type with
    | some k => if f.offset = l.length ∧ f.name ≠ "_" ∧ k.length = P.cellsOf f.type then some (l ++ k) else none
    | none => none
  | none => none

theorem stepK_none (d : Nat) : ∀ fs : List Field, fs.foldl (stepK P d) none = none
  | [] => rfl
  | f :: fs => by rw [List.foldl_cons]; exact stepK_none d fs

theorem run_equalIn_plain : ∀ (d k : Nat) (t : TypeId) (s : List CK) (cs ds : List Value) (r : Bool), kindsT P d t = some s → valsEq s cs ds = some r →
    (Op.equalIn (d + k) t (asVal P t cs) (asVal P t ds)).run P w = .ok r w := by
  intro d
  induction d with
  | zero => intro k t s cs ds r h; simp [kindsT] at h
  | succ d ih =>
    intro k t s cs ds r h hv
    have hlen := valsEq_length hv
    have scalar : ∀ c, s = [c] → isAggT P t = some false → ∃ x y, cs = [x] ∧ ds = [y] ∧ valEq c x y = some r ∧ asVal P t cs = x ∧ asVal P t ds = y := by
      rintro c rfl hf
      obtain ⟨x, rfl⟩ := List.length_eq_one_iff.1 hlen.1
      obtain ⟨y, rfl⟩ := List.length_eq_one_iff.1 hlen.2
      refine ⟨x, y, rfl, rfl, ?_, by simp [asVal, hf], by simp [asVal, hf]⟩
      simp only [valsEq] at hv
      split at hv
      · rename_i a b ha hb
        cases hb
        simpa [ha] using hv
      · cases hv
    rw [show d + 1 + k = d + k + 1 by omega]
    unfold kindsT at h
    split at h
    · rename_i q hu
      split at h
      · cases h
        obtain ⟨x, y, rfl, rfl, he, e1, e2⟩ := scalar _ rfl (by simp [isAggT, hu])
        rw [e1, e2]
        unfold valEq at he
        split at he <;> first | (cases he; done) | skip
        rename_i hh; cases hh
        split at he
        · rename_i hk; obtain ⟨rfl, rfl⟩ := hk; cases he
          exact run_equalIn_int w _ t _ _ _ _ hu
        · cases he
        · rename_i hh; cases hh
        · rename_i hh; cases hh
      · cases h
    · rename_i hu
      split at h
      · cases h
        obtain ⟨x, y, rfl, rfl, he, e1, e2⟩ := scalar _ rfl (by simp [isAggT, hu])
        rw [e1, e2]
        unfold valEq at he
        split at he <;> first | (cases he; done) | skip
        · rename_i hh; cases hh
        · cases he
          rw [run_equalIn_string w _ t _ _ hu, beq_toListBytes]
        · rename_i hh; cases hh
      · cases h
    · rename_i hu
      split at h
      · cases h
        obtain ⟨x, y, rfl, rfl, he, e1, e2⟩ := scalar _ rfl (by simp [isAggT, hu])
        rw [e1, e2]
        unfold valEq at he
        split at he <;> first | (cases he; done) | skip
        · rename_i hh; cases hh
        · rename_i hh; cases hh
        · cases he
          exact run_equalIn_bool' w _ t _ _ hu
      · cases h
    · rename_i n e hu
      split at h
      · rename_i l hl
        split at h
        · rename_i hc
          cases h
          obtain ⟨b, hb, hb1, hle⟩ := kindsT_agg hl
          obtain ⟨i, hi⟩ := info_of_isAgg hb
          have ha : isAggT P t = some true := by simp [isAggT, hu]
          simp only [asVal, ha]
          rw [run_equalIn_array w _ _ _ hu hi]
          have main : ∀ (m j : Nat) (r : Bool), j + m = n → valsEq (List.replicate m l).flatten (cs.drop (j * P.cellsOf e)) (ds.drop (j * P.cellsOf e)) = some r →
              (Op.eqItems (d + k) e (P.cellsOf e) cs.toArray ds.toArray (List.range' j m)).run P w = .ok r w := by
            intro m
            induction m with
            | zero =>
              intro j r _ hr
              simp only [List.replicate_zero, List.flatten_nil] at hr
              have hl2 := valsEq_length hr
              simp only [List.length_nil] at hl2
              rw [List.eq_nil_of_length_eq_zero hl2.1, List.eq_nil_of_length_eq_zero hl2.2] at hr
              cases hr
              simp [Op.eqItems]
            | succ m im =>
              intro j r hj hr
              rw [List.replicate_succ, List.flatten_cons] at hr
              obtain ⟨r1, r2, g1, g2, rfl⟩ := valsEq_split hr
              rw [hle] at g1 g2
              have hs1 : j * P.cellsOf e + P.cellsOf e ≤ cs.length := by
                have h4 : j * P.cellsOf e + P.cellsOf e ≤ n * P.cellsOf e := by rw [← Nat.succ_mul]; exact Nat.mul_le_mul_right _ (by omega)
                have h5 := hlen.1; simp [hle] at h5; omega
              have hs2 : j * P.cellsOf e + P.cellsOf e ≤ ds.length := by
                have h4 : j * P.cellsOf e + P.cellsOf e ≤ n * P.cellsOf e := by rw [← Nat.succ_mul]; exact Nat.mul_le_mul_right _ (by omega)
                have h5 := hlen.2; simp [hle] at h5; omega
              have p1 := run_part (w := w) (cs := cs.toArray) (off := j * P.cellsOf e) hb rfl hb1 (by simpa using hs1)
              have p2 := run_part (w := w) (cs := ds.toArray) (off := j * P.cellsOf e) hb rfl hb1 (by simpa using hs2)
              have p3 := ih k e l _ _ r1 hl g1
              rw [List.range'_succ]
              simp only [Op.eqItems, Sem.run_bind, p1, p2, p3, Result.andThen_ok]
              cases r1
              · simp
              · have := im (j + 1) r2 (by omega) (by
                  rw [List.drop_drop, List.drop_drop] at g2
                  rw [Nat.add_mul, Nat.one_mul]; exact g2)
                simpa using this
          have := main n 0 r (by omega) (by simpa using hv)
          rwa [List.range_eq_range']
        · cases h
      · cases h
    · rename_i fs hu
      split at h
      · rename_i l hl
        split at h
        · rename_i hc
          cases h
          have ha : isAggT P t = some true := by simp [isAggT, hu]
          have hf : P.fieldsOf t = fs := by simp [Program.fieldsOf, hu]
          simp only [asVal, ha]
          rw [run_equalIn_struct w _ t _ _ (by rw [hf]; exact hu) hc.2, hf]
          have main : ∀ (fl : List Field) (pre : List CK) (r : Bool), fl.foldl (stepK P d) (some pre) = some s → valsEq (s.drop pre.length) (cs.drop pre.length) (ds.drop pre.length) = some r →
              (Op.eqFields (d + k) cs.toArray ds.toArray fl).run P w = .ok r w := by
            intro fl
            induction fl with
            | nil =>
              intro pre r hp hr
              simp only [List.foldl_nil, Option.some.injEq] at hp
              subst hp
              rw [List.drop_length] at hr
              have hl2 := valsEq_length hr
              rw [List.eq_nil_of_length_eq_zero hl2.1, List.eq_nil_of_length_eq_zero hl2.2] at hr
              cases hr
              simp [Op.eqFields]
            | cons f fl im =>
              intro pre r hp hr
              rw [List.foldl_cons] at hp
              cases hs : stepK P d (some pre) f with
              | none => rw [hs, stepK_none] at hp; cases hp
              | some pre' =>
                rw [hs] at hp
                unfold stepK at hs
                simp only at hs
                split at hs
                · rename_i kf hkf
                  split at hs
                  · rename_i hcf
                    cases hs
                    have hpre : ∃ post, s = pre ++ kf ++ post := by
                      clear im hr
                      have gen : ∀ (fl : List Field) (q : List CK), fl.foldl (stepK P d) (some q) = some s → ∃ post, s = q ++ post := by
                        intro fl
                        induction fl with
                        | nil => intro q hq; simp at hq; exact ⟨[], by simp [hq]⟩
                        | cons g fl ig =>
                          intro q hq
                          rw [List.foldl_cons] at hq
                          cases hs2 : stepK P d (some q) g with
                          | none => rw [hs2, stepK_none] at hq; cases hq
                          | some q' =>
                            rw [hs2] at hq
                            obtain ⟨post, hpost⟩ := ig q' hq
                            unfold stepK at hs2
                            simp only at hs2
                            split at hs2
                            · split at hs2
                              · cases hs2; exact ⟨_, by rw [hpost, List.append_assoc]⟩
                              · cases hs2
                            · cases hs2
                      exact gen fl _ hp
                    obtain ⟨post, hpost⟩ := hpre
                    have hsd : s.drop pre.length = kf ++ post := by rw [hpost, List.append_assoc, List.drop_left]
                    rw [hsd] at hr
                    obtain ⟨r1, r2, g1, g2, rfl⟩ := valsEq_split hr
                    obtain ⟨b, hb, hb1, hle⟩ := kindsT_agg hkf
                    have hs1 : f.offset + kf.length ≤ cs.length := by
                      have h2 : s.length = pre.length + kf.length + post.length := by rw [hpost]; simp [Nat.add_assoc]
                      rw [hcf.1, hlen.1]; omega
                    have hs2 : f.offset + kf.length ≤ ds.length := by
                      have h2 : s.length = pre.length + kf.length + post.length := by rw [hpost]; simp [Nat.add_assoc]
                      rw [hcf.1, hlen.2]; omega
                    have p1 := run_part (w := w) (cs := cs.toArray) (off := f.offset) hb hle.symm (by rw [hle]; exact hb1) (by simpa using hs1)
                    have p2 := run_part (w := w) (cs := ds.toArray) (off := f.offset) hb hle.symm (by rw [hle]; exact hb1) (by simpa using hs2)
                    rw [hcf.1] at p1 p2
                    have p3 := ih k f.type kf _ _ r1 hkf g1
                    simp only [Op.eqFields, hcf.2.1, ne_eq, not_false_eq_true, if_true, hcf.1, Sem.run_bind, p1, p2, p3, Result.andThen_ok]
                    cases r1
                    · simp
                    · have := im (pre ++ kf) r2 hp (by
                        have e : s.drop (pre.length + kf.length) = post := by rw [hpost, ← List.length_append, List.drop_left]
                        rw [List.length_append, e]
                        simpa [List.drop_drop, Nat.add_comm] using g2)
                      simpa using this
                  · cases hs
                · cases hs
          exact main fs.toList [] r hl (by simpa using hv)
        · cases h
      · cases h
    · cases h

theorem run_equal_plain {t : TypeId} {s : List CK} {cs ds : Array Value} {r : Bool} (h : kindsT P 8 t = some s) (ha : isAggT P t = some true) (hv : valsEq s cs.toList ds.toList = some r) :
    (Op.equal t (.agg cs) (.agg ds)).run P w = .ok r w := by
  have := run_equalIn_plain (P := P) (w := w) 8 9992 t s cs.toList ds.toList r h hv
  simpa [asVal, ha, Op.equal, Op.maxDepth] using this
end
end Go.Proofs.YtkihnmpjpbfiaaaDoor.Ev
