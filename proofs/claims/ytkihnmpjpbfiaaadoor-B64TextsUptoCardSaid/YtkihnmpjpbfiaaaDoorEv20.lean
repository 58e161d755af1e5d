/- A walk's own beginning and end: the blocks handed over, and what becomes of them. -/
import Derived.Test.YtkihnmpjpbfiaaaDoorEv19
set_option linter.unusedVariables false
set_option linter.unusedSimpArgs false
namespace Go.Proofs.YtkihnmpjpbfiaaaDoor.Ev
open Go

theorem ren_live {f : Nat → Nat} (ab : AB) : (ab.ren f).live = ab.live := by cases ab <;> rfl

/-- The second list says at most what the first one says, place by place. -/
def wkL : List AV → List AV → Prop
  | [], [] => True
  | a :: l, b :: r => (b = .u ∨ b = a) ∧ wkL l r
  | _, _ => False
theorem wkL_refl : ∀ l, wkL l l
  | [] => trivial
  | _ :: l => ⟨.inr rfl, wkL_refl l⟩
def AB.wk : AB → AB → Prop
  | .lp st p tms k, .lp st' p' tms' k' => st = st' ∧ p = p' ∧ k = k' ∧ wkL tms tms'
  | a, b => a = b
theorem AB.wk_eq {a b : AB} (h : a = b) : a.wk b := by
  subst h; cases a <;> simp [AB.wk, wkL_refl]
theorem AB.wk_live {a b : AB} (h : a.wk b) : a.live = b.live := by
  cases a <;> cases b <;> simp_all [AB.wk, AB.live]
theorem wkL_mat {E : Env} {η : Eta} : ∀ {l r : List AV} {vs : List Value}, wkL l r → MatL E η l vs → MatL E η r vs
  | [], [], _, _, m => m
  | [], _ :: _, _, h, _ => h.elim
  | _ :: _, [], _, h, _ => h.elim
  | a :: l, b :: r, vs, h, m => by
    simp only [MatL] at m ⊢
    obtain ⟨v, q, rfl, h1, h2⟩ := m
    refine ⟨v, q, rfl, ?_, wkL_mat h.2 h2⟩
    rcases h.1 with e | e
    · subst e; simp [Mat]
    · subst e; exact h1
theorem AB.wk_blk {E : Env} {η : Eta} {w : World} {A : RA} {a b : AB} (h : a.wk b) (m : BlkOk E η w A a) : BlkOk E η w A b := by
  cases a
  case lp st p tms k =>
    cases b
    case lp st' p' tms' k' =>
      obtain ⟨rfl, rfl, rfl, h⟩ := h
      obtain ⟨h0, h1, rec, r1, r2, r3, r4, r5, r6, r7⟩ := m
      exact ⟨h0, h1, rec, r1, r2, r3, r4, r5, r6, wkL_mat h r7⟩
    all_goals (simp only [AB.wk] at h; cases h)
  all_goals (cases b <;> simp only [AB.wk] at h <;> cases h <;> exact m)
/-- Of so many places one is told. -/
def only (n i : Nat) (a : AV) : List AV := (List.replicate n .u).set i a
theorem wkL_u : ∀ l : List AV, wkL l (List.replicate l.length .u)
  | [] => trivial
  | _ :: l => ⟨.inl rfl, wkL_u l⟩
theorem wkL_set : ∀ {l r : List AV} (i : Nat) {a : AV}, wkL l r → l.getD i .u = a → wkL l (r.set i a)
  | [], [], i, a, h, _ => by cases i <;> exact h
  | [], _ :: _, _, _, h, _ => h.elim
  | _ :: _, [], _, _, h, _ => h.elim
  | a :: l, b :: r, 0, c, h, e => by simp at e; subst e; exact ⟨.inr rfl, h.2⟩
  | a :: l, b :: r, i + 1, c, h, e => ⟨h.1, wkL_set i h.2 (by simpa using e)⟩
theorem wkL_only {l : List AV} {n i : Nat} {a : AV} (hn : l.length = n) (h : l.getD i .u = a) : wkL l (only n i a) := by
  subst hn; exact wkL_set i (wkL_u l) h

def nth (ids : List Nat) (j : Nat) : Nat := ids.getD j 0
def eta0 (η : Eta) (ids : List Nat) : Eta := fun j => if j < ids.length then η (nth ids j) else none
def Sof (η : Eta) (H : Nat → AB) (ids : List Nat) (b : Nat) : Prop := ∃ id A, id ∈ ids ∧ (H id).live = true ∧ η id = some A ∧ 0 < A.cap ∧ A.blk = b
def envOf (η : Eta) (H : Nat → AB) (w : World) (ids : List Nat) : Env := ⟨w, Sof η H ids, eta0 η ids⟩

theorem nth_mem {ids : List Nat} {j : Nat} (h : j < ids.length) : nth ids j ∈ ids := by
  unfold nth; rw [List.getD_eq_getElem?_getD, List.getElem?_eq_getElem h]; exact List.getElem_mem h
theorem nth_inj {ids : List Nat} (nd : ids.Nodup) {j k : Nat} (hj : j < ids.length) (hk : k < ids.length) (h : nth ids j = nth ids k) : j = k := by
  unfold nth at h
  rw [List.getD_eq_getElem?_getD, List.getElem?_eq_getElem hj, List.getD_eq_getElem?_getD, List.getElem?_eq_getElem hk] at h
  exact (List.getElem_inj nd).1 h
theorem mem_nth {ids : List Nat} {id : Nat} (h : id ∈ ids) : ∃ j, j < ids.length ∧ nth ids j = id := by
  obtain ⟨j, hj, e⟩ := List.getElem_of_mem h
  exact ⟨j, hj, by unfold nth; rw [List.getD_eq_getElem?_getD, List.getElem?_eq_getElem hj]; exact e⟩

section
variable {E : Env} {η : Eta} {H : Nat → AB} {D : Nat → Prop} {w : World} {ids : List Nat}

theorem sof_old (hH : Heap E η H D w) : ∀ b, Sof η H ids b → E.w0.heap.size ≤ b ∨ E.S0 b := by
  rintro b ⟨id, A, _, hl, hA, hc, rfl⟩
  obtain ⟨B, hB, _, h⟩ := hH.hp id hl
  rw [hA] at hB; cases hB
  exact (h hc).2

/-- The blocks that a block's cells name. -/
def AB.refs : AB → List Nat
  | .cells _ l => l.flatMap refOf
  | _ => []
def Anch (H : Nat → AB) (id : Nat) : Prop := (H id).live = true ∨ ∃ i, id ∈ (H i).refs
theorem mat_ref {a : AV} {v : Value} (m : Mat E η a v) {id : Nat} (h : id ∈ refOf a) : ∃ A, η id = some A := by
  cases a <;> simp only [refOf, List.mem_cons, List.not_mem_nil, or_false] at h <;> try exact h.elim
  all_goals
    subst h
    simp only [Mat] at m
  · obtain ⟨A, h, _⟩ := m; exact ⟨A, h⟩
  · obtain ⟨A, h, _⟩ := m; exact ⟨A, h⟩
  · obtain ⟨A, h, _⟩ := m; exact ⟨A, h⟩
  · obtain ⟨A, _, _, h, _⟩ := m; exact ⟨A, h⟩
  · obtain ⟨A, _, h, _⟩ := m; exact ⟨A, h⟩
theorem matC_ref {id : Nat} : ∀ {l : List AV} {vs : List Value}, MatC E η l vs → id ∈ l.flatMap refOf → ∃ A, η id = some A
  | [], _, _, h => by simp at h
  | a :: l, vs, m, h => by
    rw [List.flatMap_cons, List.mem_append] at h
    by_cases hv : ∃ k n xs, a = .vec k n xs
    · obtain ⟨k, n, xs, rfl⟩ := hv
      simp only [MatC] at m
      obtain ⟨_, r, _, m⟩ := m
      rcases h with h | h
      · simp [refOf] at h
      · exact matC_ref m h
    · have m' : ∃ v r, vs = v :: r ∧ v.oneCell' = true ∧ Mat E η a v ∧ MatC E η l r := by
        cases a <;> first | exact absurd ⟨_, _, _, rfl⟩ hv | simpa only [MatC] using m
      obtain ⟨v, r, _, _, m1, m2⟩ := m'
      rcases h with h | h
      · exact mat_ref m1 h
      · exact matC_ref m2 h
theorem anch_eta (hH : Heap E η H D w) {id : Nat} (h : Anch H id) : ∃ A, η id = some A := by
  rcases h with h | ⟨i, h⟩
  · obtain ⟨A, h, _⟩ := hH.hp id h; exact ⟨A, h⟩
  · cases hi : H i with
    | cells ty l =>
      rw [hi] at h
      obtain ⟨A, _, hb, _⟩ := hH.hp i (by rw [hi]; rfl)
      rw [hi] at hb
      obtain ⟨_, cs, _, _, _, _, m, _⟩ := hb
      exact matC_ref m h
    | _ => rw [hi] at h; simp [AB.refs] at h

theorem core_ext (hH : Heap E η H D w) {b o : Nat} {rc : RC} (h : ExtAt E b o rc) : ExtAt (envOf η H w ids) b o rc := ext_later hH (sof_old hH) h

theorem core_mat (hH : Heap E η H D w) {a : AV} {v : Value} (hf : a.fit true ids.length = true) (m : Mat E η (a.ren (nth ids)) v) : Mat (envOf η H w ids) (eta0 η ids) a v :=
  mat_fit (fun j A hj hA => by simp [eta0, hj]; exact hA) (fun _ _ _ _ h => core_ext hH h) hf (mat_ren.1 m)

theorem core_start (hH : Heap E η H D w) (nd : ids.Nodup) {hl : List AB} (hlen : hl.length = ids.length) (hat : ∀ j, j < ids.length → (hl.getD j .gone).live = true → (H (nth ids j)).wk ((hl.getD j .gone).ren (nth ids)))
    (hfit : ∀ j, j < ids.length → (hl.getD j .gone).fit true ids.length = true) :
    Heap (envOf η H w ids) (eta0 η ids) (fun j => hl.getD j .gone) (· < hl.length) w := by
  have inn : ∀ j, (hl.getD j AB.gone).live = true → j < ids.length := fun j hj => by
    rcases Nat.lt_or_ge j hl.length with h | h
    · omega
    · rw [List.getD_eq_getElem?_getD, List.getElem?_eq_none h] at hj; cases hj
  have at0 : ∀ j, j < ids.length → eta0 η ids j = η (nth ids j) := fun j hj => by simp [eta0, hj]
  refine ⟨fun j hj => ?_, fun j k A B hne hj hk hA hB hcA hcB => ?_, fun _ _ _ => rfl, Nat.le_refl _, fun j A hA => ?_, Bg.refl w, fun _ _ h => h⟩
  · have hlt := inn j hj
    have hlive : (H (nth ids j)).live = true := by rw [AB.wk_live (hat j hlt hj), ren_live]; exact hj
    obtain ⟨A, hA, hb, hc⟩ := hH.hp _ hlive
    refine ⟨A, by rw [at0 j hlt]; exact hA, ?_, fun h0 => ⟨(hc h0).1, .inr ⟨_, A, nth_mem hlt, hlive, hA, h0, rfl⟩⟩⟩
    have hb := AB.wk_blk (hat j hlt hj) hb
    exact blk_fit (fun j A hj hA => by rw [at0 j hj]; exact hA) (fun _ _ _ _ h => core_ext hH h) (hfit j hlt) (blk_ren.1 hb)
  · have h1 := inn j hj; have h2 := inn k hk
    rw [at0 j h1] at hA; rw [at0 k h2] at hB
    exact hH.ds _ _ A B (fun e => hne (nth_inj nd h1 h2 e)) (by rw [AB.wk_live (hat j h1 hj), ren_live]; exact hj) (by rw [AB.wk_live (hat k h2 hk), ren_live]; exact hk) hA hB hcA hcB
  · unfold eta0 at hA
    split at hA
    · show j < hl.length; omega
    · cases hA

def outF (ids : List Nat) (fid : Nat) (j : Nat) : Nat := if j < ids.length then nth ids j else fid + (j - ids.length)
def outU (ids : List Nat) (fid : Nat) (hr : List AB) : List (Nat × AB) := (List.range hr.length).map fun j => (outF ids fid j, (hr.getD j .gone).ren (outF ids fid))
def outR (side : Prop) (val : AV) (hr : List AB) (ids : List Nat) (fid : Nat) : R := ⟨side, val.ren (outF ids fid), outU ids fid hr, fid + (hr.length - ids.length)⟩

theorem lookup_in : ∀ {l : List (Nat × AB)} {id : Nat} {ab : AB}, lookup l id = some ab → (id, ab) ∈ l
  | [], _, _, h => by cases h
  | (j, x) :: r, id, ab, h => by
    simp only [lookup] at h
    split at h
    · rename_i e; cases h; subst e; simp
    · exact List.mem_cons_of_mem _ (lookup_in h)
theorem in_lookup : ∀ {l : List (Nat × AB)} {id : Nat} {ab : AB}, (id, ab) ∈ l → ∃ ab', lookup l id = some ab'
  | (j, x) :: r, id, ab, h => by
    simp only [lookup]
    split
    · exact ⟨_, rfl⟩
    · rename_i hne
      rcases List.mem_cons.1 h with h | h
      · cases h; exact absurd rfl hne
      · exact in_lookup h

theorem core_end (hH : Heap E η H D w) (nd : ids.Nodup) (hη : ∀ id, id ∈ ids → ∃ A, η id = some A) {fid : Nat} {hr : List AB} {η' : Eta} {D' : Nat → Prop} {w' : World} {side : Prop} {val : AV} {v : Value}
    (hn : ids.length ≤ hr.length) (hE : Heap (envOf η H w ids) η' (fun j => hr.getD j .gone) D' w') (hfr : ∀ id, fid ≤ id → id < fid + (hr.length - ids.length) → η id = none)
    (m : Mat (envOf η H w ids) η' val v) (hv : val.fit false hr.length = true) (hh : ∀ j, j < hr.length → (hr.getD j .gone).fit false hr.length = true) :
    ∃ ηf, Concl E η ηf H w w' fid (outR side val hr ids fid) v := by
  have hF : ∀ j A, j < hr.length → η' j = some A → (fun id => match η id with
      | some A => some A
      | none => if fid ≤ id ∧ id < fid + (hr.length - ids.length) then η' (ids.length + (id - fid)) else none : Eta) (outF ids fid j) = some A := by
    intro j A hj hA
    by_cases hjn : j < ids.length
    · simp only [outF, if_pos hjn]
      obtain ⟨B, hB⟩ := hη _ (nth_mem hjn)
      have h1 := hE.an j B (by show eta0 η ids j = some B; simp [eta0, hjn]; exact hB)
      rw [hA] at h1; cases h1
      rw [hB]
    · simp only [outF, if_neg hjn]
      rw [hfr _ (by omega) (by omega)]
      simp only
      rw [if_pos ⟨by omega, by omega⟩, ← hA]
      congr 1; omega
  generalize hηf : (fun id => match η id with
      | some A => some A
      | none => if fid ≤ id ∧ id < fid + (hr.length - ids.length) then η' (ids.length + (id - fid)) else none : Eta) = ηf at hF
  have upd_at : ∀ id ab, lookup (outU ids fid hr) id = some ab → ∃ j, j < hr.length ∧ outF ids fid j = id ∧ ab = (hr.getD j .gone).ren (outF ids fid) := by
    intro id ab h
    obtain ⟨j, h1, h2⟩ := List.mem_map.1 (lookup_in h)
    cases h2
    exact ⟨j, List.mem_range.1 h1, rfl, rfl⟩
  have at_upd : ∀ j, j < hr.length → ∃ ab, lookup (outU ids fid hr) (outF ids fid j) = some ab := fun j hj =>
    in_lookup (ab := (hr.getD j .gone).ren (outF ids fid)) (List.mem_map.2 ⟨j, List.mem_range.2 hj, rfl⟩)
  have in_upd : ∀ id, id ∈ ids → ∃ ab, lookup (outU ids fid hr) id = some ab := fun id hid => by
    obtain ⟨j, hj, rfl⟩ := mem_nth hid
    have := at_upd j (by omega)
    simpa [outF, hj] using this
  refine ⟨ηf, ?_, ?_, ?_, ?_, ?_, ?_, hE.sz, hE.bg⟩
  · intro id A hA; rw [← hηf]; simp [hA]
  · intro id A hA hN
    rw [← hηf] at hA
    simp only [hN] at hA
    split at hA
    · rename_i h; exact h
    · cases hA
  · exact mat_ren.2 (mat_fit (fun j A hj hA => hF j A hj hA) (fun h => (by cases h)) hv m)
  · intro id ab hu hl
    obtain ⟨j, hj, rfl, rfl⟩ := upd_at id ab hu
    rw [ren_live] at hl
    obtain ⟨A, hA, hb, hc⟩ := hE.hp j hl
    refine ⟨A, hF j A hj hA, blk_ren.2 (blk_fit (fun j A hj hA => hF j A hj hA) (fun h => (by cases h)) (hh j hj) hb), fun h0 => ⟨(hc h0).1, ?_⟩⟩
    rcases (hc h0).2 with h | ⟨id, B, h1, h2, h3, h4, h5⟩
    · exact .inl h
    · exact .inr ⟨id, B, h3, h4, h5, h2, in_upd id h1⟩
  · intro id id' ab ab' A A' hne hu hu' hl hl' hA hA' hc hc'
    obtain ⟨j, hj, rfl, rfl⟩ := upd_at id ab hu
    obtain ⟨k, hk, rfl, rfl⟩ := upd_at id' ab' hu'
    rw [ren_live] at hl hl'
    obtain ⟨B, hB, _⟩ := hE.hp j hl
    obtain ⟨B', hB', _⟩ := hE.hp k hl'
    rw [hF j B hj hB] at hA; cases hA
    rw [hF k B' hk hB'] at hA'; cases hA'
    exact hE.ds j k _ _ (fun e => hne (by rw [e])) hl hl' hB hB' hc hc'
  · intro b hb hfrm
    refine hE.fr b hb ?_
    rintro ⟨id, A, h1, h2, h3, h4, h5⟩
    obtain ⟨ab, hab⟩ := in_upd id h1
    exact hfrm id A ab hab h2 h3 h4 h5
end
end Go.Proofs.YtkihnmpjpbfiaaaDoor.Ev
