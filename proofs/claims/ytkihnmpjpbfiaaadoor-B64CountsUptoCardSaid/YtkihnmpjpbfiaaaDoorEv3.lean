/- The lists of abstract cells, and the rows by their contents, fit the machine's cells. -/
import Derived.Test.YtkihnmpjpbfiaaaDoorEv2
set_option linter.unusedVariables false
set_option linter.unusedSimpArgs false
namespace Go.Proofs.YtkihnmpjpbfiaaaDoor.Ev
open Go

section
variable {E : Env} {η : Eta}

theorem matC_cons {a : AV} {l : List AV} {vs : List Value} (h : ∀ k n xs, a ≠ .vec k n xs) :
    MatC E η (a :: l) vs ↔ ∃ v r, vs = v :: r ∧ v.oneCell' = true ∧ Mat E η a v ∧ MatC E η l r := by
  cases a <;> first | (simp only [MatC]; done) | exact absurd rfl (h _ _ _)

theorem matC_append : ∀ {x y : List AV} {a b : List Value}, MatC E η x a → MatC E η y b → MatC E η (x ++ y) (a ++ b)
  | [], _, a, b, h1, h2 => by simp only [MatC] at h1; subst h1; simpa using h2
  | c :: x, y, a, b, h1, h2 => by
    by_cases hv : ∃ k n xs, c = .vec k n xs
    · obtain ⟨k, n, xs, rfl⟩ := hv
      simp only [List.cons_append, MatC] at h1 ⊢
      obtain ⟨e, r, rfl, h3⟩ := h1
      exact ⟨e, r ++ b, by simp, matC_append h3 h2⟩
    · have hv' : ∀ k n xs, c ≠ .vec k n xs := fun k n xs e => hv ⟨k, n, xs, e⟩
      rw [matC_cons hv'] at h1
      rw [List.cons_append, matC_cons hv']
      obtain ⟨v, r, rfl, h3, h4, h5⟩ := h1
      exact ⟨v, r ++ b, rfl, h3, h4, matC_append h5 h2⟩

theorem matC_length : ∀ {l : List AV} {cs : List Value}, MatC E η l cs → cs.length = widths l
  | [], cs, h => by simp only [MatC] at h; subst h; rfl
  | c :: l, cs, h => by
    by_cases hv : ∃ k n xs, c = .vec k n xs
    · obtain ⟨k, n, xs, rfl⟩ := hv
      simp only [MatC] at h
      obtain ⟨e, r, rfl, h3⟩ := h
      simp [widths, AV.w, matC_length h3, e]
    · have hv' : ∀ k n xs, c ≠ .vec k n xs := fun k n xs e => hv ⟨k, n, xs, e⟩
      have hw : c.w = 1 := by cases c <;> first | rfl | exact absurd rfl (hv' _ _ _)
      rw [matC_cons hv'] at h
      obtain ⟨v, r, rfl, _, _, h5⟩ := h
      simp [widths, hw, matC_length h5, Nat.add_comm]

theorem matC_one : ∀ {l : List AV} {cs : List Value}, MatC E η l cs → ∀ v ∈ cs, v.oneCell' = true
  | [], cs, h => by simp only [MatC] at h; subst h; simp
  | c :: l, cs, h => by
    by_cases hv : ∃ k n xs, c = .vec k n xs
    · obtain ⟨k, n, xs, rfl⟩ := hv
      simp only [MatC] at h
      obtain ⟨e, r, rfl, h3⟩ := h
      intro v hm
      rcases List.mem_append.1 hm with hm | hm
      · obtain ⟨x, _, rfl⟩ := List.mem_map.1 hm; rfl
      · exact matC_one h3 v hm
    · have hv' : ∀ k n xs, c ≠ .vec k n xs := fun k n xs e => hv ⟨k, n, xs, e⟩
      rw [matC_cons hv'] at h
      obtain ⟨v, r, rfl, h1, _, h5⟩ := h
      intro v hm
      rcases List.mem_cons.1 hm with rfl | hm
      · exact h1
      · exact matC_one h5 v hm

theorem avw_one {c : AV} (h : ∀ k n xs, c ≠ .vec k n xs) : c.w = 1 := by
  cases c <;> first | rfl | exact absurd rfl (h _ _ _)

theorem takeW_ok : ∀ {l : List AV} {n : Nat} {x y : List AV} {cs : List Value}, takeW l n = some (x, y) → MatC E η l cs →
    n ≤ cs.length ∧ MatC E η x (cs.take n) ∧ MatC E η y (cs.drop n) ∧ widths x = n
  | [], n, x, y, cs, h, m => by
    unfold takeW at h
    split at h
    · rename_i h0
      cases h
      subst h0
      simp only [MatC] at m; subst m
      simp [MatC, widths]
    · cases h
  | a :: l, n, x, y, cs, h, m => by
    unfold takeW at h
    split at h
    · rename_i h0
      cases h
      subst h0
      refine ⟨Nat.zero_le _, by simp [MatC], by simpa using m, rfl⟩
    · split at h
      · rename_i h0 h1
        split at h
        · rename_i x' y' hx
          cases h
          by_cases hv : ∃ k n xs, a = .vec k n xs
          · obtain ⟨k, m', xs, rfl⟩ := hv
            simp only [MatC, AV.w] at m h1 hx ⊢
            obtain ⟨e, r, rfl, h3⟩ := m
            obtain ⟨g1, g2, g3, g4⟩ := takeW_ok hx h3
            refine ⟨by simp; omega, ⟨e, r.take (n - m'), ?_, g2⟩, ?_, by simp [widths, AV.w, g4]; omega⟩
            · rw [List.take_append]
              simp only [List.length_map, e]
              rw [List.take_of_length_le (by simp; omega)]
            · rw [List.drop_append]
              simp only [List.length_map, e]
              rw [List.drop_of_length_le (by simp; omega)]
              simpa using g3
          · have hv' : ∀ k n xs, a ≠ .vec k n xs := fun k n xs e => hv ⟨k, n, xs, e⟩
            have hw := avw_one hv'
            rw [hw] at hx h1
            rw [matC_cons hv'] at m
            obtain ⟨v, r, rfl, m1, m2, m3⟩ := m
            obtain ⟨g1, g2, g3, g4⟩ := takeW_ok hx m3
            obtain ⟨n', rfl⟩ : ∃ n', n = n' + 1 := ⟨n - 1, by omega⟩
            simp only [Nat.add_sub_cancel] at g1 g2 g3 g4
            refine ⟨by simp; omega, ?_, by simpa using g3, by simp [widths, hw, g4, Nat.add_comm]⟩
            rw [List.take_succ_cons, matC_cons hv']
            exact ⟨v, _, rfl, m1, m2, g2⟩
        · cases h
      · rename_i h0 h1
        split at h
        · rename_i k m' xs
          cases h
          simp only [MatC, AV.w] at m h1 ⊢
          obtain ⟨e, r, rfl, h3⟩ := m
          refine ⟨by simp; omega, ⟨by simp; omega, [], ?_, rfl⟩, ⟨by simp [e], r, ?_, h3⟩, by simp [widths, AV.w]⟩
          · rw [List.take_append_of_le_length (by simp; omega), ← List.map_take]; simp
          · rw [List.drop_append_of_le_length (by simp; omega), ← List.map_drop]
        · cases h

theorem cellAt_ok : ∀ {l : List AV} {o : Nat} {a : AV} {cs : List Value}, cellAt l o = some a → MatC E η l cs →
    ∃ v, cs[o]? = some v ∧ v.oneCell' = true ∧ Mat E η a v
  | [], _, _, _, h, _ => by simp [cellAt] at h
  | c :: l, o, a, cs, h, m => by
    by_cases hv : ∃ k n xs, c = .vec k n xs
    · obtain ⟨k, n, xs, rfl⟩ := hv
      simp only [cellAt] at h
      simp only [MatC] at m
      obtain ⟨e, r, rfl, h3⟩ := m
      split at h
      · rename_i hlt
        simp at h; subst h
        refine ⟨.int k (xs.getD o 0), ?_, rfl, by simp [Mat]⟩
        rw [List.getElem?_append_left (by simp [e, hlt])]
        simp [List.getD, e, hlt]
      · rename_i hge
        obtain ⟨v, h1, h2⟩ := cellAt_ok h h3
        refine ⟨v, ?_, h2⟩
        rw [List.getElem?_append_right (by simp [e]; omega)]
        simpa [e] using h1
    · have hv' : ∀ k n xs, c ≠ .vec k n xs := fun k n xs e => hv ⟨k, n, xs, e⟩
      rw [matC_cons hv'] at m
      obtain ⟨v, r, rfl, m1, m2, m3⟩ := m
      have hc : cellAt (c :: l) o = if o = 0 then some c else cellAt l (o - 1) := by
        cases c <;> first | rfl | exact absurd rfl (hv' _ _ _)
      rw [hc] at h
      split at h
      · rename_i h0; subst h0
        simp at h; subst h
        exact ⟨v, rfl, m1, m2⟩
      · rename_i h0
        obtain ⟨u, h1, h2⟩ := cellAt_ok h m3
        obtain ⟨o', rfl⟩ : ∃ o', o = o' + 1 := ⟨o - 1, by omega⟩
        exact ⟨u, by simpa using h1, h2⟩

theorem one_ok {a : AV} {v : Value} (h : a.one = true) (m : Mat E η a v) : v.oneCell' = true := by
  cases a <;> simp only [AV.one, Bool.false_eq_true] at h <;> simp only [Mat] at m
  case p => obtain ⟨_, _, rfl⟩ := m; rfl
  case pe => obtain ⟨_, _, rfl⟩ := m; rfl
  case q => obtain ⟨_, _, rfl⟩ := m; rfl
  case s => obtain ⟨_, _, _, _, _, _, rfl, _⟩ := m; rfl
  case x => obtain ⟨_, _, rfl, _⟩ := m; rfl
  case xq => obtain ⟨_, _, _, rfl⟩ := m; rfl
  case f => obtain ⟨_, _, rfl, _⟩ := m; rfl
  case v => subst m; exact h
  all_goals (subst m; rfl)

theorem one_not_vec {a : AV} (h : a.one = true) : ∀ k n xs, a ≠ .vec k n xs := by
  rintro k n xs rfl; simp [AV.one] at h

theorem setAt_ok : ∀ {l : List AV} {o : Nat} {x : AV} {l' : List AV} {cs : List Value} {v : Value}, setAt l o x = some l' → MatC E η l cs → Mat E η x v →
    o < cs.length ∧ MatC E η l' (cs.set o v)
  | [], _, _, _, _, _, h, _, _ => by simp [setAt] at h
  | c :: l, o, x, l', cs, v, h, m, mx => by
    by_cases hv : ∃ k n xs, c = .vec k n xs
    · obtain ⟨k, n, xs, rfl⟩ := hv
      simp only [MatC] at m
      obtain ⟨e, r, rfl, h3⟩ := m
      simp only [setAt] at h
      split at h
      · rename_i hlt
        have key : ∀ k' i, v = .int k' i → (if k' = k then some (AV.vec k n (xs.set o i) :: l) else none) = some l' → o < (xs.map (Value.int k) ++ r).length ∧ MatC E η l' ((xs.map (Value.int k) ++ r).set o v) := by
          rintro k' i rfl h
          split at h
          · rename_i hk; subst hk
            simp at h; subst h
            refine ⟨by simp [e]; omega, ?_⟩
            simp only [MatC]
            refine ⟨by simpa using e, r, ?_, h3⟩
            rw [List.set_append_left _ _ (by simp [e, hlt])]
            simp [List.map_set]
          · cases h
        split at h
        · simp only [Mat] at mx; exact key _ _ mx h
        · simp only [Mat] at mx; exact key _ _ mx h
        · cases h
      · rename_i hge
        split at h
        · rename_i r' hr
          simp at h; subst h
          obtain ⟨g1, g2⟩ := setAt_ok hr h3 mx
          refine ⟨by simp [e]; omega, ?_⟩
          simp only [MatC]
          refine ⟨e, r.set (o - n) v, ?_, g2⟩
          rw [List.set_append_right _ _ (by simp [e]; omega)]
          simp [e]
        · cases h
    · have hv' : ∀ k n xs, c ≠ .vec k n xs := fun k n xs e => hv ⟨k, n, xs, e⟩
      rw [matC_cons hv'] at m
      obtain ⟨u, r, rfl, m1, m2, m3⟩ := m
      have hc : setAt (c :: l) o x = if o = 0 then (if x.one then some (x :: l) else none) else match setAt l (o - 1) x with
          | some r => some (c :: r)
          | none => none := by
        cases c <;> first | rfl | exact absurd rfl (hv' _ _ _)
      rw [hc] at h
      split at h
      · rename_i h0; subst h0
        split at h
        · rename_i h1
          simp at h; subst h
          refine ⟨by simp, ?_⟩
          rw [List.set_cons_zero, matC_cons (one_not_vec h1)]
          exact ⟨v, r, rfl, one_ok h1 mx, mx, m3⟩
        · cases h
      · rename_i h0
        split at h
        · rename_i r' hr
          simp at h; subst h
          obtain ⟨g1, g2⟩ := setAt_ok hr m3 mx
          obtain ⟨o', rfl⟩ : ∃ o', o = o' + 1 := ⟨o - 1, by omega⟩
          refine ⟨by simpa using g1, ?_⟩
          rw [List.set_cons_succ, matC_cons hv']
          exact ⟨u, _, rfl, m1, m2, by simpa using g2⟩
        · cases h

theorem vecAt_ok : ∀ {l : List AV} {o : Nat} {k : IntKind} {n : Nat} {xs : List Int} {cs : List Value}, vecAt l o = some (k, n, xs) → MatC E η l cs →
    xs.length = n ∧ ∀ j, j < n → cs[o + j]? = some (.int k (xs.getD j 0))
  | [], _, _, _, _, _, h, _ => by simp [vecAt] at h
  | c :: l, o, k, n, xs, cs, h, m => by
    by_cases hv : ∃ k n xs, c = .vec k n xs
    · obtain ⟨k', n', xs', rfl⟩ := hv
      simp only [MatC] at m
      obtain ⟨e, r, rfl, h3⟩ := m
      simp only [vecAt] at h
      split at h
      · rename_i h0; subst h0
        simp at h; obtain ⟨rfl, rfl, rfl⟩ := h
        refine ⟨e, fun j hj => ?_⟩
        rw [Nat.zero_add, List.getElem?_append_left (by simp [e, hj])]
        simp [List.getD, e, hj]
      · split at h
        · rename_i h0 h1
          obtain ⟨g1, g2⟩ := vecAt_ok h h3
          refine ⟨g1, fun j hj => ?_⟩
          rw [List.getElem?_append_right (by simp [e]; omega)]
          have := g2 j hj
          simp only [List.length_map, e]
          rw [← this]; congr 1; omega
        · cases h
    · have hv' : ∀ k n xs, c ≠ .vec k n xs := fun k n xs e => hv ⟨k, n, xs, e⟩
      rw [matC_cons hv'] at m
      obtain ⟨u, r, rfl, m1, m2, m3⟩ := m
      have hc : vecAt (c :: l) o = if o = 0 then none else vecAt l (o - 1) := by
        cases c <;> first | rfl | exact absurd rfl (hv' _ _ _)
      rw [hc] at h
      split at h
      · cases h
      · rename_i h0
        obtain ⟨o', rfl⟩ : ∃ o', o = o' + 1 := ⟨o - 1, by omega⟩
        obtain ⟨g1, g2⟩ := vecAt_ok h m3
        refine ⟨g1, fun j hj => ?_⟩
        have := g2 j hj
        rw [show o' + 1 + j = (o' + j) + 1 by omega]
        simpa using this

theorem setVec_ok : ∀ {l : List AV} {o : Nat} {k : IntKind} {n j : Nat} {e : Int} {xs : List Int} {l' : List AV} {cs : List Value}, vecAt l o = some (k, n, xs) →
    setVec l o (xs.set j e) = some l' → j < n → MatC E η l cs → o + j < cs.length ∧ MatC E η l' (cs.set (o + j) (.int k e))
  | [], _, _, _, _, _, _, _, _, h, _, _, _ => by simp [vecAt] at h
  | c :: l, o, k, n, j, e, xs, l', cs, h, hs, hj, m => by
    by_cases hv : ∃ k n xs, c = .vec k n xs
    · obtain ⟨k', n', xs', rfl⟩ := hv
      simp only [MatC] at m
      obtain ⟨en, r, rfl, h3⟩ := m
      simp only [vecAt] at h
      simp only [setVec] at hs
      split at h
      · rename_i h0; subst h0
        simp at h; obtain ⟨rfl, rfl, rfl⟩ := h
        simp at hs; subst hs
        refine ⟨by simp [en]; omega, ?_⟩
        simp only [MatC]
        refine ⟨by simpa using en, r, ?_, h3⟩
        rw [Nat.zero_add, List.set_append_left _ _ (by simp [en, hj])]
        simp [List.map_set]
      · rename_i h0
        rw [if_neg h0] at hs
        split at h
        · rename_i h1
          rw [if_pos h1] at hs
          split at hs
          · rename_i r' hr
            simp at hs; subst hs
            obtain ⟨g1, g2⟩ := setVec_ok h hr hj h3
            refine ⟨by simp [en]; omega, ?_⟩
            simp only [MatC]
            refine ⟨en, _, ?_, g2⟩
            rw [List.set_append_right _ _ (by simp [en]; omega)]
            simp only [List.length_map, en]
            rw [show o + j - n' = o - n' + j by omega]
          · cases hs
        · cases h
    · have hv' : ∀ k n xs, c ≠ .vec k n xs := fun k n xs e => hv ⟨k, n, xs, e⟩
      rw [matC_cons hv'] at m
      obtain ⟨u, r, rfl, m1, m2, m3⟩ := m
      have hc : vecAt (c :: l) o = if o = 0 then none else vecAt l (o - 1) := by
        cases c <;> first | rfl | exact absurd rfl (hv' _ _ _)
      have hc' : setVec (c :: l) o (xs.set j e) = if o = 0 then none else match setVec l (o - 1) (xs.set j e) with
          | some r => some (c :: r)
          | none => none := by
        cases c <;> first | rfl | exact absurd rfl (hv' _ _ _)
      rw [hc] at h
      rw [hc'] at hs
      split at h
      · cases h
      · rename_i h0
        rw [if_neg h0] at hs
        split at hs
        · rename_i r' hr
          simp at hs; subst hs
          obtain ⟨o', rfl⟩ : ∃ o', o = o' + 1 := ⟨o - 1, by omega⟩
          obtain ⟨g1, g2⟩ := setVec_ok h hr hj m3
          simp only [Nat.add_sub_cancel] at g1 g2
          refine ⟨by simp; omega, ?_⟩
          rw [show o' + 1 + j = (o' + j) + 1 by omega, List.set_cons_succ, matC_cons hv']
          exact ⟨u, _, rfl, m1, m2, g2⟩
        · cases hs

theorem setSeg_ok {l : List AV} {off n : Nat} {new l' : List AV} {cs ns : List Value} (h : setSeg l off n new = some l') (m : MatC E η l cs) (mn : MatC E η new ns) :
    off + n ≤ cs.length ∧ MatC E η l' (cs.take off ++ ns ++ cs.drop (off + n)) := by
  unfold setSeg at h
  split at h
  · rename_i pre rest h1
    split at h
    · rename_i x post h2
      simp at h; subst h
      obtain ⟨a1, a2, a3, _⟩ := takeW_ok h1 m
      obtain ⟨b1, b2, b3, _⟩ := takeW_ok h2 a3
      refine ⟨by simp at b1; omega, ?_⟩
      rw [← List.append_assoc]
      exact matC_append (matC_append a2 mn) (by simpa [List.drop_drop] using b3)
    · cases h
  · cases h
end

/-! ### Rows -/
theorem recVals_one : ∀ (s : List CK) (x : List Cell), ∀ v ∈ recVals s x, v.oneCell' = true
  | [], _, v, h => by simp [recVals] at h
  | c :: s, x, v, h => by
    simp only [recVals, List.mem_cons] at h
    rcases h with rfl | h
    · cases c <;> rfl
    · exact recVals_one s _ v h

theorem RC.vals_one (rc : RC) : ∀ v ∈ rc.vals, v.oneCell' = true := by
  cases rc with
  | bytes l => intro v h; obtain ⟨x, _, rfl⟩ := List.mem_map.1 h; rfl
  | ints k l => intro v h; obtain ⟨x, _, rfl⟩ := List.mem_map.1 h; rfl
  | strs l => intro v h; obtain ⟨x, _, rfl⟩ := List.mem_map.1 h; rfl
  | recs s l =>
    intro v h
    obtain ⟨x, _, hv⟩ := List.mem_flatMap.1 h
    exact recVals_one s x v hv

theorem flatMap_seg {α β : Type} (f : α → List β) (n : Nat) (hn : ∀ a, (f a).length = n) (d : α) : ∀ (l : List α) (i : Nat), i < l.length →
    ((l.flatMap f).drop (i * n)).take n = f (l.getD i d)
  | [], i, h => by simp at h
  | a :: l, 0, _ => by
    simp only [List.flatMap_cons, Nat.zero_mul, List.drop_zero, List.getD_cons_zero]
    rw [List.take_append_of_le_length (by rw [hn]; exact Nat.le_refl n), List.take_of_length_le (by rw [hn]; exact Nat.le_refl n)]
  | a :: l, i + 1, h => by
    have ih := flatMap_seg f n hn d l i (by simpa using h)
    simp only [List.flatMap_cons, List.getD_cons_succ]
    rw [show (i + 1) * n = n + i * n by rw [Nat.add_mul]; omega, List.drop_append]
    rw [List.drop_of_length_le (by rw [hn]; omega), List.nil_append, hn, Nat.add_sub_cancel_left]
    exact ih

theorem take_drop_get {α : Type} (l : List α) (o n j : Nat) (h : j < n) : ((l.drop o).take n)[j]? = l[o + j]? := by
  rw [List.getElem?_take_of_lt h, List.getElem?_drop]

section
variable {E : Env} {η : Eta}

theorem CK.av_mat (c : CK) (x : Cell) : Mat E η (c.av x) (c.enc x) := by cases c <;> simp [CK.av, CK.enc, Mat]

theorem recAVs_mat : ∀ (s : List CK) (e : List Cell), MatC E η (recAVs s e) (recVals s e)
  | [], _ => by simp [recAVs, recVals, MatC]
  | c :: s, e => by
    simp only [recAVs, recVals]
    rw [matC_cons (by cases c <;> simp [CK.av])]
    exact ⟨_, _, rfl, by cases c <;> rfl, c.av_mat _, recAVs_mat s _⟩

theorem RC.get_ok {rc : RC} {idx fld : Nat} {a : AV} (h : rc.get idx fld = some a) (hi : idx < rc.len) :
    fld < rc.w ∧ ∃ v, rc.vals[idx * rc.w + fld]? = some v ∧ Mat E η a v := by
  cases rc with
  | bytes l =>
    simp only [RC.get] at h
    split at h
    · rename_i h0; subst h0; simp at h; subst h
      simp only [RC.len] at hi
      exact ⟨by simp [RC.w], _, by simp [RC.vals, RC.w, hi, byteVal]; rfl, by simp [Mat, hi]⟩
    · cases h
  | ints k l =>
    simp only [RC.get] at h
    split at h
    · rename_i h0; subst h0; simp at h; subst h
      simp only [RC.len] at hi
      exact ⟨by simp [RC.w], _, by simp [RC.vals, RC.w, hi]; rfl, by simp [Mat, hi]⟩
    · cases h
  | strs l =>
    simp only [RC.get] at h
    split at h
    · rename_i h0; subst h0; simp at h; subst h
      simp only [RC.len] at hi
      exact ⟨by simp [RC.w], _, by simp [RC.vals, RC.w, hi]; rfl, by simp [Mat, hi]⟩
    · cases h
  | recs s l =>
    simp only [RC.get] at h
    split at h
    · rename_i c hc
      simp at h; subst h
      simp only [RC.len] at hi
      have hf : fld < s.length := (List.getElem?_eq_some_iff.1 hc).1
      refine ⟨hf, _, ?_, c.av_mat _⟩
      have := flatMap_seg (recVals s) s.length (recVals_length s) [] l idx hi
      have h2 := take_drop_get (l.flatMap (recVals s)) (idx * s.length) s.length fld hf
      rw [this, recVals_get s _ fld c hc] at h2
      simpa [RC.vals, RC.w] using h2.symm
    · cases h

theorem RC.elem_ok {rc : RC} {idx : Nat} {l : List AV} (h : rc.elem idx = some l) (hi : idx < rc.len) :
    MatC E η l ((rc.vals.drop (idx * rc.w)).take rc.w) := by
  cases rc <;> simp only [RC.elem] at h <;> first | (cases h; done) | skip
  rename_i s xs
  simp at h; subst h
  simp only [RC.vals, RC.w]
  rw [flatMap_seg (recVals s) s.length (recVals_length s) [] xs idx hi]
  exact recAVs_mat s _

theorem set_map {α β : Type} (f : α → β) (l : List α) (i : Nat) (x : α) : (l.set i x).map f = (l.map f).set i (f x) := by simp [List.map_set]

theorem byte_of {e : Int} (h : 0 ≤ e ∧ e < 256) : byteVal (UInt8.ofNat e.toNat) = .int .u8 e := by
  unfold byteVal
  congr 1
  simp only [UInt8.toNat_ofNat']
  omega

theorem RC.set_ok {rc rc' : RC} {idx fld : Nat} {x : AV} {v : Value} {p : Prop} (h : rc.set idx fld x = some (rc', p)) (hp : p) (m : Mat E η x v) :
    rc'.vals = rc.vals.set (idx * rc.w + fld) v ∧ rc'.len = rc.len ∧ rc'.w = rc.w ∧ fld < rc.w := by
  unfold RC.set at h
  split at h
  · split at h
    · rename_i h0; subst h0; cases h
      simp only [Mat] at m; subst m
      simp [RC.vals, RC.len, RC.w, List.map_set, byte_of hp]
    · cases h
  · split at h
    · rename_i h0; subst h0; cases h
      simp only [Mat] at m; subst m
      simp [RC.vals, RC.len, RC.w, List.map_set, byte_of hp]
    · cases h
  · split at h
    · rename_i h0; obtain ⟨rfl, rfl⟩ := h0; cases h
      simp only [Mat] at m; subst m
      simp [RC.vals, RC.len, RC.w, List.map_set]
    · cases h
  · split at h
    · rename_i h0; obtain ⟨rfl, rfl⟩ := h0; cases h
      simp only [Mat] at m; subst m
      simp [RC.vals, RC.len, RC.w, List.map_set]
    · cases h
  · split at h
    · rename_i h0; subst h0; cases h
      simp only [Mat] at m; subst m
      simp [RC.vals, RC.len, RC.w, List.map_set]
    · cases h
  · cases h

theorem flatMap_drop {α β : Type} (f : α → List β) (n : Nat) (hn : ∀ a, (f a).length = n) : ∀ (l : List α) (i : Nat), (l.drop i).flatMap f = (l.flatMap f).drop (i * n)
  | [], i => by simp
  | a :: l, 0 => by simp
  | a :: l, i + 1 => by
    have e : (i + 1) * n = (f a).length + i * n := by rw [hn, Nat.add_mul]; omega
    rw [List.drop_succ_cons, flatMap_drop f n hn l i, List.flatMap_cons, e, List.drop_length_add_append]
theorem flatMap_take {α β : Type} (f : α → List β) (n : Nat) (hn : ∀ a, (f a).length = n) : ∀ (l : List α) (i : Nat), (l.take i).flatMap f = (l.flatMap f).take (i * n)
  | [], i => by simp
  | a :: l, 0 => by simp
  | a :: l, i + 1 => by
    have e : (i + 1) * n = (f a).length + i * n := by rw [hn, Nat.add_mul]; omega
    rw [List.take_succ_cons, List.flatMap_cons, flatMap_take f n hn l i, List.flatMap_cons, e, List.take_length_add_append]

theorem RC.sub_vals (rc : RC) (lo n : Nat) : (rc.sub lo n).vals = (rc.vals.drop (lo * rc.w)).take (n * rc.w) := by
  cases rc with
  | recs s l => simp only [RC.sub, RC.vals, RC.w]; rw [flatMap_take _ s.length (recVals_length s), flatMap_drop _ s.length (recVals_length s)]
  | _ => simp [RC.sub, RC.vals, RC.w]
theorem RC.sub_w (rc : RC) (lo n : Nat) : (rc.sub lo n).w = rc.w := by cases rc <;> rfl
theorem RC.sub_len (rc : RC) (lo n : Nat) : (rc.sub lo n).len = min n (rc.len - lo) := by cases rc <;> simp [RC.sub, RC.len]
theorem RC.app_ok {a b c : RC} (h : a.app b = some c) : c.vals = a.vals ++ b.vals ∧ c.len = a.len + b.len ∧ c.w = a.w ∧ b.w = a.w := by
  unfold RC.app at h
  split at h
  · simp at h; subst h; simp [RC.vals, RC.len, RC.w]
  · split at h
    · rename_i hk; subst hk; simp at h; subst h; simp [RC.vals, RC.len, RC.w]
    · cases h
  · simp at h; subst h; simp [RC.vals, RC.len, RC.w]
  · split at h
    · rename_i hk; subst hk; simp at h; subst h; simp [RC.vals, RC.len, RC.w]
    · cases h
  · cases h
theorem RC.nil_ok (rc : RC) : rc.nil.vals = [] ∧ rc.nil.len = 0 ∧ rc.nil.w = rc.w := by cases rc <;> simp [RC.nil, RC.vals, RC.len, RC.w]

theorem toBytes_ok : ∀ {xs : List Int}, allU8 xs → (toBytes xs).map byteVal = xs.map (Value.int .u8)
  | [], _ => rfl
  | x :: l, h => by
    simp only [toBytes, List.map_cons]
    rw [byte_of h.1, toBytes_ok h.2]

theorem byteCells_ok : ∀ {l : List AV} {x : List UInt8} {p : Prop} {cs : List Value}, byteCells l = some (x, p) → p → MatC E η l cs → x.map byteVal = cs
  | [], x, p, cs, h, hp, m => by
    cases h
    simp only [MatC] at m; subst m; rfl
  | a :: l, x, p, cs, h, hp, m => by
    unfold byteCells at h
    split at h
    · rename_i heq; simp at heq
    · rename_i e r heq
      simp at heq; obtain ⟨rfl, rfl⟩ := heq
      split at h
      · rename_i l' p' hl
        cases h
        rw [matC_cons (by simp)] at m
        obtain ⟨v, r, rfl, _, m2, m3⟩ := m
        simp only [Mat] at m2; subst m2
        rw [List.map_cons, byteCells_ok hl hp.2 m3, byte_of hp.1]
      · cases h
    · rename_i e r heq
      simp at heq; obtain ⟨rfl, rfl⟩ := heq
      split at h
      · rename_i l' p' hl
        cases h
        rw [matC_cons (by simp)] at m
        obtain ⟨v, r, rfl, _, m2, m3⟩ := m
        simp only [Mat] at m2; subst m2
        rw [List.map_cons, byteCells_ok hl hp.2 m3, byte_of hp.1]
      · cases h
    · rename_i n xs r heq
      simp at heq; obtain ⟨rfl, rfl⟩ := heq
      split at h
      · rename_i l' p' hl
        cases h
        simp only [MatC] at m
        obtain ⟨_, r', rfl, m3⟩ := m
        rw [List.map_append, byteCells_ok hl hp.2 m3, toBytes_ok hp.1]
      · cases h
    · cases h

theorem intCells_ok {k : IntKind} : ∀ {l : List AV} {x : List Int} {cs : List Value}, intCells k l = some x → MatC E η l cs → x.map (Value.int k) = cs
  | [], x, cs, h, m => by
    simp [intCells] at h; subst h
    simp only [MatC] at m; subst m; rfl
  | a :: l, x, cs, h, m => by
    unfold intCells at h
    split at h
    · rename_i heq; simp at heq
    · rename_i k' e r heq
      simp at heq; obtain ⟨rfl, rfl⟩ := heq
      split at h
      · rename_i hk; subst hk
        split at h
        · rename_i l' hl
          simp at h; subst h
          rw [matC_cons (by simp)] at m
          obtain ⟨v, r, rfl, _, m2, m3⟩ := m
          simp only [Mat] at m2; subst m2
          rw [List.map_cons, intCells_ok hl m3]
        · cases h
      · cases h
    · rename_i k' e r heq
      simp at heq; obtain ⟨rfl, rfl⟩ := heq
      split at h
      · rename_i hk; subst hk
        split at h
        · rename_i l' hl
          simp at h; subst h
          rw [matC_cons (by simp)] at m
          obtain ⟨v, r, rfl, _, m2, m3⟩ := m
          simp only [Mat] at m2; subst m2
          rw [List.map_cons, intCells_ok hl m3]
        · cases h
      · cases h
    · rename_i k' n xs r heq
      simp at heq; obtain ⟨rfl, rfl⟩ := heq
      split at h
      · rename_i hk; subst hk
        split at h
        · rename_i l' hl
          simp at h; subst h
          simp only [MatC] at m
          obtain ⟨_, r, rfl, m3⟩ := m
          rw [List.map_append, intCells_ok hl m3]
        · cases h
      · cases h
    · cases h

theorem strCells_ok : ∀ {l : List AV} {x : List ByteArray} {cs : List Value}, strCells l = some x → MatC E η l cs → x.map Value.string = cs
  | [], x, cs, h, m => by
    simp [strCells] at h; subst h
    simp only [MatC] at m; subst m; rfl
  | a :: l, x, cs, h, m => by
    unfold strCells at h
    split at h
    · rename_i heq; simp at heq
    · rename_i e r heq
      simp at heq; obtain ⟨rfl, rfl⟩ := heq
      split at h
      · rename_i l' hl
        simp at h; subst h
        rw [matC_cons (by simp)] at m
        obtain ⟨v, r, rfl, _, m2, m3⟩ := m
        simp only [Mat] at m2; subst m2
        rw [List.map_cons, strCells_ok hl m3]
      · cases h
    · cases h

theorem recCell_ok : ∀ {s : List CK} {l : List AV} {c : List Cell} {r : List AV} {cs : List Value}, recCell s l = some (c, r) → MatC E η l cs →
    ∃ r', cs = recVals s c ++ r' ∧ MatC E η r r' := by
  intro s
  induction s with
  | nil =>
    intro l c r cs h m
    simp only [recCell] at h
    cases h
    exact ⟨cs, by simp [recVals], m⟩
  | cons k s ih =>
    intro l c r cs h m
    have fin : ∀ {a : AV} {l' : List AV} {x : Cell} {c' : List Cell}, l = a :: l' → (∀ k n xs, a ≠ .vec k n xs) → (∀ v, Mat E η a v → v = k.enc x) → recCell s l' = some (c', r) → c = x :: c' →
        ∃ r', cs = recVals (k :: s) c ++ r' ∧ MatC E η r r' := by
      rintro a l' x c' rfl hnv hm hr rfl
      rw [matC_cons hnv] at m
      obtain ⟨v, r0, rfl, _, m2, m3⟩ := m
      obtain ⟨r', rfl, m4⟩ := ih hr m3
      exact ⟨r', by rw [hm v m2]; simp [recVals], m4⟩
    unfold recCell at h
    split at h
    · rename_i heq; simp at heq
    · rename_i k0 cs0 k' e r0 hk
      simp at hk; obtain ⟨rfl, rfl⟩ := hk
      split at h
      · rename_i hkk; subst hkk
        split at h
        · rename_i l' r' hl
          cases h
          exact fin rfl (by simp) (fun v hv => by simp only [Mat] at hv; exact hv) hl rfl
        · cases h
      · cases h
    · rename_i k0 cs0 k' e r0 hk
      simp at hk; obtain ⟨rfl, rfl⟩ := hk
      split at h
      · rename_i hkk; subst hkk
        split at h
        · rename_i l' r' hl
          cases h
          exact fin rfl (by simp) (fun v hv => by simp only [Mat] at hv; exact hv) hl rfl
        · cases h
      · cases h
    · rename_i cs0 e r0 hk
      simp at hk; obtain ⟨rfl, rfl⟩ := hk
      split at h
      · rename_i l' r' hl
        cases h
        exact fin rfl (by simp) (fun v hv => by simp only [Mat] at hv; exact hv) hl rfl
      · cases h
    · rename_i cs0 e r0 hk
      simp at hk; obtain ⟨rfl, rfl⟩ := hk
      split at h
      · rename_i l' r' hl
        cases h
        exact fin rfl (by simp) (fun v hv => by simp only [Mat] at hv; exact hv) hl rfl
      · cases h
    · rename_i cs0 e r0 hk
      simp at hk; obtain ⟨rfl, rfl⟩ := hk
      split at h
      · rename_i l' r' hl
        cases h
        exact fin rfl (by simp) (fun v hv => by simp only [Mat] at hv; exact hv) hl rfl
      · cases h
    · cases h

theorem recCells_ok {s : List CK} : ∀ {n : Nat} {l : List AV} {x : List (List Cell)} {cs : List Value}, recCells s n l = some x → MatC E η l cs → x.flatMap (recVals s) = cs ∧ x.length = n
  | 0, l, x, cs, h, m => by
    unfold recCells at h
    split at h
    · simp at h; subst h
      simp only [MatC] at m; subst m; simp
    · cases h
  | n + 1, l, x, cs, h, m => by
    unfold recCells at h
    split at h
    · rename_i c r hc
      split at h
      · rename_i l' hl
        simp at h; subst h
        obtain ⟨r', rfl, m3⟩ := recCell_ok hc m
        obtain ⟨g1, g2⟩ := recCells_ok hl m3
        exact ⟨by rw [List.flatMap_cons, g1], by simp [g2]⟩
      · cases h
    · cases h

theorem fromCells_ok {kind rc : RC} {n : Nat} {l : List AV} {p : Prop} {cs : List Value} (h : fromCells kind n l = some (rc, p)) (hp : p) (m : MatC E η l cs) :
    rc.vals = cs ∧ rc.len = n ∧ rc.w = kind.w := by
  unfold fromCells at h
  split at h
  · split at h
    · rename_i x q hx
      split at h
      · rename_i hn
        cases h
        exact ⟨byteCells_ok hx hp m, hn, rfl⟩
      · cases h
    · cases h
  · split at h
    · rename_i x hx
      split at h
      · rename_i hn
        cases h
        exact ⟨intCells_ok hx m, hn, rfl⟩
      · cases h
    · cases h
  · split at h
    · rename_i x hx
      split at h
      · rename_i hn
        cases h
        exact ⟨strCells_ok hx m, hn, rfl⟩
      · cases h
    · cases h
  · split at h
    · rename_i x hx
      cases h
      have := recCells_ok hx m
      exact ⟨this.1, this.2, rfl⟩
    · cases h
end
end Go.Proofs.YtkihnmpjpbfiaaaDoor.Ev
