/- A region that draws its order: one account, in the order of the text, serves every order. -/
import Derived.Test.YtkihnmpjpbfiaaaDoorEv15
set_option linter.unusedVariables false
set_option linter.unusedSimpArgs false
namespace Go.Proofs.YtkihnmpjpbfiaaaDoor.Ev
open Go

def edge (ops : Array Oper) (i j : Nat) : Bool := match ops[j]? with
  | some o => o.after.toList.any fun e => Region.binds .any e && e.on == i
  | none => false

def edgesBack (ops : Array Oper) : Bool := go ops.toList 0
where
  go : List Oper → Nat → Bool
    | [], _ => true
    | o :: r, j => (o.after.toList.all fun e => !Region.binds .any e || decide (e.on < j)) && go r (j + 1)

def apartTE (x y : TE) : Bool :=
  (match x.dst with
    | some d => !y.rd.contains d && !(y.dst == some d)
    | none => true) &&
  (match y.dst with
    | some d => !x.rd.contains d
    | none => true) &&
  (x.up.all fun id => !y.ft.contains id && !y.up.contains id) && (y.up.all fun id => !x.ft.contains id)

def indepRow (ops : Array Oper) (x : TE) (i : Nat) : List TE → Nat → Bool
  | [], _ => true
  | y :: r, j => (edge ops i j || apartTE x y) && indepRow ops x i r (j + 1)
def indepAll (ops : Array Oper) : List TE → Nat → Bool
  | [], _ => true
  | x :: r, i => indepRow ops x i r (i + 1) && indepAll ops r (i + 1)

theorem indepRow_get {ops : Array Oper} {x : TE} {i : Nat} : ∀ {l : List TE} {k j : Nat} {y : TE}, indepRow ops x i l k = true → l[j]? = some y → edge ops i (k + j) = true ∨ apartTE x y = true
  | [], _, _, _, _, h => by simp at h
  | z :: l, k, 0, y, h, hy => by
    simp at hy; subst hy
    simp only [indepRow, Bool.and_eq_true, Bool.or_eq_true] at h
    exact h.1
  | z :: l, k, j + 1, y, h, hy => by
    simp only [indepRow, Bool.and_eq_true] at h
    have := indepRow_get h.2 (by simpa using hy)
    rwa [show k + (j + 1) = k + 1 + j by omega]

theorem indepAll_get {ops : Array Oper} : ∀ {l : List TE} {k i j : Nat} {x y : TE}, indepAll ops l k = true → l[i]? = some x → l[j]? = some y → i < j → edge ops (k + i) (k + j) = true ∨ apartTE x y = true
  | [], _, _, _, _, _, _, h, _, _ => by simp at h
  | z :: l, k, 0, j, x, y, h, hx, hy, hij => by
    simp at hx; subst hx
    simp only [indepAll, Bool.and_eq_true] at h
    obtain ⟨j', rfl⟩ : ∃ j', j = j' + 1 := ⟨j - 1, by omega⟩
    have := indepRow_get h.1 (by simpa using hy)
    rw [show k + (j' + 1) = k + 1 + j' by omega]
    simpa using this
  | z :: l, k, i + 1, j, x, y, h, hx, hy, hij => by
    simp only [indepAll, Bool.and_eq_true] at h
    obtain ⟨j', rfl⟩ : ∃ j', j = j' + 1 := ⟨j - 1, by omega⟩
    have := indepAll_get h.2 (by simpa using hx) (by simpa using hy) (by omega)
    rwa [show k + (i + 1) = k + 1 + i by omega, show k + (j' + 1) = k + 1 + j' by omega]

theorem edgesBack_get {ops : Array Oper} (h : edgesBack ops = true) {j : Nat} {o : Oper} (ho : ops[j]? = some o) {e : Edge} (he : e ∈ o.after) (hb : Region.binds .any e = true) : e.on < j := by
  have gen : ∀ (l : List Oper) (k i : Nat), edgesBack.go l k = true → l[i]? = some o → e.on < k + i := by
    intro l
    induction l with
    | nil => intro k i _ h; simp at h
    | cons x l ih =>
      intro k i hg hi
      simp only [edgesBack.go, Bool.and_eq_true] at hg
      cases i with
      | zero =>
        simp at hi; subst hi
        have := (List.all_eq_true.1 hg.1) e (by simpa using he)
        simpa [hb] using this
      | succ i =>
        have := ih (k + 1) i hg.2 (by simpa using hi)
        omega
  have := gen ops.toList 0 j h (by simpa using ho)
  omega

theorem lookup_mem {l : List (Nat × AB)} {id : Nat} : lookup l id ≠ none ↔ id ∈ l.map (·.1) := by
  induction l with
  | nil => simp [lookup]
  | cons x l ih =>
    obtain ⟨j, ab⟩ := x
    simp only [lookup, List.map_cons, List.mem_cons]
    by_cases e : j = id
    · simp [e]
    · rw [if_neg e, ih]
      simp [Ne.symm e]

section
variable {C : Ctx} {E : Env} {m : Nat} {ro : Option Nat}

structure Inv (C : Ctx) (ops : Array Oper) (E : Env) (s0 : St) (tf : List TF) (listed : Array Bool) (a : Act) (w : World) (η : Eta) : Prop where
  sz : listed.size = ops.size
  cl : ∀ j o e, ops[j]? = some o → listed.getD j false = true → e ∈ o.after → Region.binds .any e = true → listed.getD e.on false = true
  tm : ∀ t, Mat E η (foldT tf (fun k => listed.getD k false) 0 (fun t => s0.tmps.getD t .u) t) (a.tmps.getD t undef)
  ts : a.tmps.size = s0.tmps.length
  df : Marks E η s0.ds a.defers
  hp : Heap E η (foldH tf (fun k => listed.getD k false) 0 (fun id => s0.heap.getD id .gone)) (fun id => id < s0.heap.length ∨ ∃ (j : Nat) (e : TF), tf[j]? = some e ∧ listed.getD j false = true ∧ e.fid ≤ id ∧ id < e.r.nxt) w

theorem getD_set (listed : Array Bool) (i k : Nat) (hi : i < listed.size) : (listed.setIfInBounds i true).getD k false = (decide (k = i) || listed.getD k false) := by
  simp only [Array.getD_eq_getD_getElem?, Array.getElem?_setIfInBounds]
  by_cases e : i = k
  · subst e; simp [hi]
  · simp [e, Ne.symm e]

theorem foldT_eq_of_writers {ops : Array Oper} {s0 : St} {tf : List TF} {listed : Array Bool} {i : Nat} {t : Nat}
    (h : ∀ j e, tf[j]? = some e → e.o.dst = some t → (listed.getD j false = true ↔ j < i)) :
    foldT tf (fun k => listed.getD k false) 0 (fun t => s0.tmps.getD t .u) t = foldT tf (fun k => decide (k < i)) 0 (fun t => s0.tmps.getD t .u) t := by
  have _ := ops
  refine foldT_congr tf 0 _ _ rfl fun j e hj hd => ?_
  rw [Nat.zero_add]
  have := h j e hj hd
  by_cases hl : j < i
  · simp [hl, this.2 hl]
  · have : listed.getD j false = false := by
      cases hh : listed.getD j false with
      | false => rfl
      | true => exact absurd (this.1 hh) hl
    simp [hl, this]

theorem foldH_eq_of_writers {s0 : St} {tf : List TF} {listed : Array Bool} {i : Nat} {id : Nat}
    (h : ∀ j e, tf[j]? = some e → lookup e.r.upd id ≠ none → (listed.getD j false = true ↔ j < i)) :
    foldH tf (fun k => listed.getD k false) 0 (fun id => s0.heap.getD id .gone) id = foldH tf (fun k => decide (k < i)) 0 (fun id => s0.heap.getD id .gone) id := by
  refine foldH_congr tf 0 _ _ rfl fun j e hj hd => ?_
  rw [Nat.zero_add]
  have := h j e hj hd
  by_cases hl : j < i
  · simp [hl, this.2 hl]
  · have : listed.getD j false = false := by
      cases hh : listed.getD j false with
      | false => rfl
      | true => exact absurd (this.1 hh) hl
    simp [hl, this]

theorem ready_iff {ops : Array Oper} {listed : Array Bool} {i : Nat} : i ∈ Region.ready .any ops listed ↔ i < ops.size ∧ listed.getD i true = false ∧ ∃ o, ops[i]? = some o ∧ ∀ e ∈ o.after, Region.binds .any e = true → listed.getD e.on false = true := by
  simp only [Region.ready, List.mem_filter, List.mem_range, Bool.and_eq_true, Bool.not_eq_true']
  constructor
  · rintro ⟨h1, h2, h3⟩
    refine ⟨h1, h2, ops[i], by simp [h1], fun e he hb => ?_⟩
    rw [Array.getElem?_eq_getElem h1] at h3
    simp only [Option.map_some, Option.getD_some, Array.all_eq_true_iff_forall_mem] at h3
    have := h3 e he
    simpa [hb] using this
  · rintro ⟨h1, h2, o, ho, h3⟩
    refine ⟨h1, h2, ?_⟩
    rw [ho]
    simp only [Option.map_some, Option.getD_some, Array.all_eq_true_iff_forall_mem]
    intro e he
    cases hb : Region.binds .any e with
    | false => simp
    | true => simp [h3 e he hb]

theorem path_draw (hsp : SpecsOk C.P C.sp) (hmix : C.P.follows .mixedOrders = true) {ops : Array Oper} {Q : Exit → Act → World → Prop} {s0 s' : St} {tf : List TF} (hp : Path C ops ops.toList s0 tf s')
    (hback : edgesBack ops = true) (hind : indepAll ops (tf.map (·.te C ops)) 0 = true)
    {id : Nat} {a : Act} {w : World} {η : Eta} (hf : Fits E s0 a w η) (hK : ∀ a' w' η', Fits E s' a' w' η' → Q .normal a' w') : (Code.region id ops true).wpIn (FF ro) m C.P Q a w := by
  refine wpIn_region_any hmix ?_
  have hmap := (path_facts (E := E) (η := η) hp).1
  have hlen : tf.length = ops.size := by have := congrArg List.length hmap; simpa using this
  have hop : ∀ (j : Nat) (e : TF), tf[j]? = some e → ops[j]? = some e.o := by
    intro j e hj
    have h1 : (tf.map (·.o))[j]? = some e.o := by simp [hj]
    rw [hmap] at h1
    simpa using h1
  have htf : ∀ (j : Nat) (o : Oper), ops[j]? = some o → ∃ e : TF, tf[j]? = some e ∧ e.o = o := by
    intro j o ho
    have hlt : j < tf.length := by rw [hlen]; exact (Array.getElem?_eq_some_iff.1 ho).1
    refine ⟨tf[j], by simp [hlt], ?_⟩
    have := hop j tf[j] (by simp [hlt])
    rw [ho] at this; exact (Option.some.inj this).symm
  -- two operations: ordered, or apart
  have hap : ∀ (i j : Nat) (x y : TF), tf[i]? = some x → tf[j]? = some y → i < j → edge ops i j = true ∨ apartTE (x.te C ops) (y.te C ops) = true := by
    intro i j x y hx hy hij
    have := indepAll_get hind (i := i) (j := j) (x := x.te C ops) (y := y.te C ops) (by simp [hx]) (by simp [hy]) hij
    simpa using this
  have main : ∀ (fuel : Nat) (listed : Array Bool) (a : Act) (w : World) (η : Eta), Inv C ops E s0 tf listed a w η → ((List.range ops.size).filter fun k => !listed.getD k false).length ≤ fuel → wpAnyIn (FF ro) m C.P .any ops Q fuel listed a w := by
    intro fuel
    -- all are listed
    have fin : ∀ (listed : Array Bool) (a : Act) (w : World) (η : Eta), Inv C ops E s0 tf listed a w η → (∀ k, k < ops.size → listed.getD k false = true) → Q .normal a w := by
      intro listed a w η hi hall
      obtain ⟨_, a2, a3, a4, a5, a6⟩ := path_facts (E := E) (η := η) hp
      have e1 : ∀ t, foldT tf (fun k => listed.getD k false) 0 (fun t => s0.tmps.getD t .u) t = foldT tf (fun _ => true) 0 (fun t => s0.tmps.getD t .u) t := fun t =>
        foldT_congr tf 0 _ _ rfl fun j e hj _ => by rw [Nat.zero_add]; exact hall j (by rw [← hlen]; exact (List.getElem?_eq_some_iff.1 hj).1)
      have e2 : foldH tf (fun k => listed.getD k false) 0 (fun id => s0.heap.getD id .gone) = fun id => s'.heap.getD id .gone := by
        funext id
        rw [a6 id]
        exact foldH_congr tf 0 _ _ rfl fun j e hj _ => by rw [Nat.zero_add]; exact hall j (by rw [← hlen]; exact (List.getElem?_eq_some_iff.1 hj).1)
      refine hK a w η ⟨fun t => a5 t _ (by rw [← e1]; exact hi.tm t), by rw [hi.ts, a2], by rw [path_ds hp]; exact hi.df, ?_⟩
      have h := hi.hp
      rw [e2] at h
      exact ⟨h.hp, h.ds, h.fr, h.sz, fun id A hA => by
        rcases h.dm id A hA with h1 | ⟨j, e, he, _, _, h2⟩
        · exact Nat.lt_of_lt_of_le h1 a3
        · exact Nat.lt_of_lt_of_le h2 (a4 j e he).2.2.1, h.bg, h.an⟩
    have none_ready : ∀ (listed : Array Bool) (a : Act) (w : World) (η : Eta), Inv C ops E s0 tf listed a w η → Region.ready .any ops listed = [] → ∀ k, k < ops.size → listed.getD k false = true := by
      intro listed a w η hi hr k
      induction k using Nat.strongRecOn with
      | _ k ih =>
        intro hk
        cases hh : listed.getD k false with
        | true => rfl
        | false =>
          exfalso
          have : k ∈ Region.ready .any ops listed := ready_iff.2 ⟨hk, by
            have hks : k < listed.size := by rw [hi.sz]; exact hk
            simp only [Array.getD_eq_getD_getElem?, Array.getElem?_eq_getElem hks, Option.getD_some] at hh ⊢; exact hh, ops[k], by simp [hk], fun e he hb => by
            have hlt := edgesBack_get hback (j := k) (o := ops[k]) (by simp [hk]) he hb
            exact ih e.on hlt (by omega)⟩
          rw [hr] at this; cases this
    induction fuel with
    | zero =>
      intro listed a w η hi hn
      have hall : ∀ k, k < ops.size → listed.getD k false = true := by
        intro k hk
        have h0 : (List.range ops.size).filter (fun k => !listed.getD k false) = [] := List.eq_nil_of_length_eq_zero (by omega)
        have := (List.filter_eq_nil_iff.1 h0) k (by simpa using hk)
        simpa using this
      refine ⟨?_, fin listed a w η hi hall⟩
      rw [List.eq_nil_iff_forall_not_mem]
      intro k hk
      obtain ⟨h1, h2, _⟩ := ready_iff.1 hk
      have h3 := hall k h1
      have hks : k < listed.size := by rw [hi.sz]; exact h1
      simp only [Array.getD_eq_getD_getElem?, Array.getElem?_eq_getElem hks, Option.getD_some] at h2 h3
      rw [h2] at h3; cases h3
    | succ fuel ih =>
      intro listed a w η hi hn
      refine ⟨fun hr => fin listed a w η hi (none_ready listed a w η hi hr), fun i hri => ?_⟩
      obtain ⟨hlt, hnl', o, ho, hpre⟩ := ready_iff.1 hri
      have hls : i < listed.size := by rw [hi.sz]; exact hlt
      have hnl : listed.getD i false = false := by
        simp only [Array.getD_eq_getD_getElem?, Array.getElem?_eq_getElem hls, Option.getD_some] at hnl' ⊢; exact hnl'
      obtain ⟨e, he, rfl⟩ := htf i o ho
      obtain ⟨b1, b2, b3, b4, b5, b6, b7⟩ := (path_facts (E := E) (η := η) hp).2.2.2.1 i e he
      -- who is listed, among those that meddle with this one
      have before : ∀ j, edge ops j i = true → listed.getD j false = true := by
        intro j hj
        unfold edge at hj
        rw [ho] at hj
        obtain ⟨ed, hed, hb⟩ := List.any_eq_true.1 hj
        simp only [Bool.and_eq_true, beq_iff_eq] at hb
        have := hpre ed (by simpa using hed) hb.1
        rwa [hb.2] at this
      have behind : ∀ j, edge ops i j = true → listed.getD j false = false := by
        intro j hj
        cases hh : listed.getD j false with
        | false => rfl
        | true =>
          unfold edge at hj
          cases hoj : ops[j]? with
          | none => simp [hoj] at hj
          | some oj =>
            simp only [hoj] at hj
            obtain ⟨ed, hed, hb⟩ := List.any_eq_true.1 hj
            simp only [Bool.and_eq_true, beq_iff_eq] at hb
            have := hi.cl j oj ed hoj hh (by simpa using hed) hb.1
            rw [hb.2, hnl] at this; cases this
      have meddle : ∀ (j : Nat) (x : TF), tf[j]? = some x → j ≠ i → (apartTE (x.te C ops) (e.te C ops) = true ∧ j < i) ∨ (apartTE (e.te C ops) (x.te C ops) = true ∧ i < j) ∨ (listed.getD j false = true ↔ j < i) := by
        intro j x hx hne
        rcases Nat.lt_or_ge j i with hji | hji
        · rcases hap j i x e hx he hji with h | h
          · exact .inr (.inr ⟨fun _ => hji, fun _ => before j h⟩)
          · exact .inl ⟨h, hji⟩
        · have hij : i < j := by omega
          rcases hap i j e x he hx hij with h | h
          · exact .inr (.inr ⟨fun h2 => (by rw [behind j h] at h2; cases h2), fun h2 => (by omega)⟩)
          · exact .inr (.inl ⟨h, hij⟩)
      have apart_l : ∀ {x y : TF}, apartTE (x.te C ops) (y.te C ops) = true → (∀ t, x.o.dst = some t → t ∉ y.rd ops ∧ y.o.dst ≠ some t) ∧ (∀ t, y.o.dst = some t → t ∉ x.rd ops) ∧
          (∀ id, lookup x.r.upd id ≠ none → id ∉ y.ft C.sp ∧ lookup y.r.upd id = none) ∧ (∀ id, lookup y.r.upd id ≠ none → id ∉ x.ft C.sp) := by
        intro x y h
        simp only [apartTE, TF.te, Bool.and_eq_true] at h
        obtain ⟨⟨⟨h1, h2⟩, h3⟩, h4⟩ := h
        refine ⟨fun t ht => ?_, fun t ht => ?_, fun id hid => ?_, fun id hid => ?_⟩
        · rw [ht] at h1; simpa using h1
        · rw [ht] at h2; simpa using h2
        · have := (List.all_eq_true.1 h3) id (lookup_mem.1 hid)
          simp only [Bool.and_eq_true, Bool.not_eq_true', List.contains_eq_mem, decide_eq_false_iff_not] at this
          refine ⟨this.1, ?_⟩
          cases hh : lookup y.r.upd id with
          | none => rfl
          | some ab => exact absurd (lookup_mem.1 (by rw [hh]; simp)) this.2
        · have := (List.all_eq_true.1 h4) id (lookup_mem.1 hid)
          simpa using this
      -- what is read is as in the order of the text
      have hrd : ∀ t, t ∈ e.rd ops → ∀ v, Mat E η (foldT tf (fun k => listed.getD k false) 0 (fun t => s0.tmps.getD t .u) t) v → Mat E η (e.s.tmps.getD t .u) v := by
        intro t ht v hm
        refine b6 t v ?_
        rw [← foldT_eq_of_writers (ops := ops) (listed := listed) (fun j x hx hd => ?_)]
        · exact hm
        · by_cases hne : j = i
          · subst hne
            rw [he] at hx; cases hx
            simp [hnl]
          · rcases meddle j x hx hne with ⟨h, _⟩ | ⟨h, _⟩ | h
            · exact absurd ht ((apart_l h).1 t hd).1
            · exact absurd ht ((apart_l h).2.1 t hd)
            · exact h
      have hft : ∀ id, id ∈ e.ft C.sp ∨ lookup e.r.upd id ≠ none → foldH tf (fun k => listed.getD k false) 0 (fun id => s0.heap.getD id .gone) id = e.s.heap.getD id .gone := by
        intro id hid
        rw [b7 id]
        refine foldH_eq_of_writers fun j x hx hd => ?_
        by_cases hne : j = i
        · subst hne
          rw [he] at hx; cases hx
          simp [hnl]
        · rcases meddle j x hx hne with ⟨h, _⟩ | ⟨h, _⟩ | h
          · rcases hid with hid | hid
            · exact absurd hid ((apart_l h).2.2.1 id hd).1
            · exact absurd ((apart_l h).2.2.1 id hd).2 hid
          · rcases hid with hid | hid
            · exact absurd hid ((apart_l h).2.2.2 id hd)
            · exact absurd ((apart_l h).2.2.1 id hid).2 hd
          · exact h
      -- the new count
      have hcount : ((List.range ops.size).filter fun k => !(listed.setIfInBounds i true).getD k false).length ≤ fuel := by
        have hsub : ((List.range ops.size).filter fun k => !(listed.setIfInBounds i true).getD k false).length < ((List.range ops.size).filter fun k => !listed.getD k false).length := by
          have e1 : ((List.range ops.size).filter fun k => !(listed.setIfInBounds i true).getD k false) = (((List.range ops.size).filter fun k => !listed.getD k false).filter fun k => !decide (k = i)) := by
            rw [List.filter_filter]
            apply List.filter_congr
            intro k _
            rw [getD_set listed i k hls]
            cases listed.getD k false <;> simp
          rw [e1]
          exact List.length_filter_lt_length_iff_exists.2 ⟨i, List.mem_filter.2 ⟨by simpa using hlt, by simp [hnl]⟩, by simp⟩
        omega
      -- the state behind
      have hcl' : ∀ j o' ed, ops[j]? = some o' → (listed.setIfInBounds i true).getD j false = true → ed ∈ o'.after → Region.binds .any ed = true → (listed.setIfInBounds i true).getD ed.on false = true := by
        intro j o' ed hj hl hed hb
        rw [getD_set listed i _ hls] at hl ⊢
        simp only [Bool.or_eq_true, decide_eq_true_eq] at hl ⊢
        rcases hl with rfl | hl
        · rw [ho] at hj; cases hj
          exact .inr (hpre ed hed hb)
        · exact .inr (hi.cl j o' ed hj hl hed hb)
      have hnext : ∀ (v : Value) (w' : World) (η' : Eta), Concl E η η' (foldH tf (fun k => listed.getD k false) 0 (fun id => s0.heap.getD id .gone)) w w' e.fid e.r v →
          Inv C ops E s0 tf (listed.setIfInBounds i true) (a.put e.o.dst v) w' η' := by
        intro v w' η' hc
        refine ⟨by simp [hi.sz], hcl', ?_, by cases e.o.dst <;> simp [Act.put, hi.ts], by have hdf := hi.df.mono hc.ext; cases e.o.dst <;> exact hdf, ?_⟩
        · intro t
          by_cases hd : e.o.dst = some t
          · have hlast : foldT tf (fun k => (listed.setIfInBounds i true).getD k false) 0 (fun t => s0.tmps.getD t .u) t = e.r.val := by
              refine foldT_last tf 0 i _ e he hd (by rw [Nat.zero_add, getD_set listed i i hls]; simp) fun i' e' hi' he' hd' => ?_
              rw [Nat.zero_add, getD_set listed i i' hls]
              simp only [Bool.or_eq_false_iff, decide_eq_false_iff_not]
              refine ⟨by omega, ?_⟩
              rcases hap i i' e e' he he' hi' with h | h
              · exact behind i' h
              · exact absurd hd' ((apart_l h).1 t hd).2
            rw [hlast]
            have hdl : t < a.tmps.size := by
              have := b1.d; rw [hd] at this
              rw [hi.ts, ← b4]; simpa [dstOk] using this
            simp only [hd, Act.put, Array.getD_eq_getD_getElem?, Array.getElem?_setIfInBounds, if_true]
            simpa [hdl] using hc.val
          · have hsame : foldT tf (fun k => (listed.setIfInBounds i true).getD k false) 0 (fun t => s0.tmps.getD t .u) t = foldT tf (fun k => listed.getD k false) 0 (fun t => s0.tmps.getD t .u) t := by
              refine foldT_congr tf 0 _ _ rfl fun j x hx hdx => ?_
              rw [Nat.zero_add, getD_set listed i j hls]
              by_cases hne : j = i
              · subst hne; rw [he] at hx; cases hx; exact absurd hdx hd
              · simp [hne]
            rw [hsame]
            have h1 := (hi.tm t).mono hc.ext
            cases hdd : e.o.dst with
            | none => simpa [Act.put] using h1
            | some d =>
              have : d ≠ t := by rintro rfl; exact hd hdd
              simp only [Act.put, Array.getD_eq_getD_getElem?, Array.getElem?_setIfInBounds, this, if_false] at h1 ⊢
              exact h1
        · have hH : foldH tf (fun k => (listed.setIfInBounds i true).getD k false) 0 (fun id => s0.heap.getD id .gone) = after (foldH tf (fun k => listed.getD k false) 0 (fun id => s0.heap.getD id .gone)) e.r.upd := by
            funext id
            cases hu : lookup e.r.upd id with
            | none =>
              simp only [after, hu, Option.getD_none]
              refine foldH_congr tf 0 _ _ rfl fun j x hx hdx => ?_
              rw [Nat.zero_add, getD_set listed i j hls]
              by_cases hne : j = i
              · subst hne; rw [he] at hx; cases hx; exact absurd hu hdx
              · simp [hne]
            | some ab =>
              simp only [after, hu, Option.getD_some]
              refine foldH_last tf 0 i _ e he hu (by rw [Nat.zero_add, getD_set listed i i hls]; simp) fun i' e' hi' he' hd' => ?_
              rw [Nat.zero_add, getD_set listed i i' hls]
              simp only [Bool.or_eq_false_iff, decide_eq_false_iff_not]
              refine ⟨by omega, ?_⟩
              rcases hap i i' e e' he he' hi' with h | h
              · exact behind i' h
              · exact absurd ((apart_l h).2.2.1 id (by rw [hu]; simp)).2 hd'
          rw [hH]
          refine hi.hp.step hc (fun id h => ?_) (fun id h1 h2 => ?_)
          · rcases h with h | ⟨j, x, hx, hl, h1, h2⟩
            · exact .inl h
            · exact .inr ⟨j, x, hx, by rw [getD_set listed i j hls]; simp [hl], h1, h2⟩
          · exact .inr ⟨i, e, he, by rw [getD_set listed i i hls]; simp, h1, h2⟩
      -- the operation itself
      have hwant : Region.wanted e.o (yielded ops a.tmps) = e.wanted :=
        guard_wanted (s := e.s) (fun t ht => hrd t (by simp [TF.rd, ht]) _ (hi.tm t)) (by rw [hi.ts, b4]) b1.g
      unfold wpOpIn
      rw [ho]
      simp only [hwant]
      cases hw : e.wanted with
      | true =>
        simp only [if_true]
        obtain ⟨hr, hs, hu⟩ := b1.run hw
        have hr' : opA C.P C.sp e.o.op e.o.type (fun t => (restr (tmpsOf e.o.op) fun t => e.s.tmps.getD t .u) t) (foldH tf (fun k => listed.getD k false) 0 (fun id => s0.heap.getD id .gone)) e.fid = some e.r := by
          rw [← hr]
          have er : ∀ t, t ∈ tmpsOf e.o.op → (restr (tmpsOf e.o.op) fun t => e.s.tmps.getD t .u) t = e.s.tmps.getD t .u := fun t ht => by simp [restr, ht]
          refine opA_congr er fun id hid => hft id (.inl ?_)
          have : restr (tmpsOf e.o.op) (fun t => (restr (tmpsOf e.o.op) fun t => e.s.tmps.getD t .u) t) = restr (tmpsOf e.o.op) fun t => e.s.tmps.getD t .u := by
            funext t
            by_cases hc : (tmpsOf e.o.op).contains t = true <;> simp only [restr, hc, if_true, if_false, Bool.false_eq_true]
          rw [this] at hid
          simpa [TF.ft, hw] using hid
        refine wpIn_of_opOk (coreA_not_defer hr) (opA_ok hsp hi.hp (fun t => ?_) hr' hs (fun id h1 h2 => ?_)) ?_
        · unfold restr
          split
          · rename_i hc
            exact hrd t (by simp only [TF.rd, hw, if_true, List.mem_append]; right; simpa using hc) _ (hi.tm t)
          · simp [Mat]
        · cases hη : η id with
          | none => rfl
          | some A =>
            exfalso
            rcases hi.hp.dm id A hη with h | ⟨j, x, hx, hl, h3, h4⟩
            · omega
            · obtain ⟨_, _, _, _, c5, _⟩ := (path_facts (E := E) (η := η) hp).2.2.2.1 j x hx
              rcases Nat.lt_trichotomy i j with hij | rfl | hij
              · have := b5 j x hij hx; omega
              · rw [hnl] at hl; cases hl
              · have := c5 i e hij he; omega
        · rintro v w' ⟨η', hc⟩
          exact ih _ _ _ _ (hnext v w' η' hc) hcount
      | false =>
        simp only [Bool.false_eq_true, if_false]
        refine ⟨fun _ _ => trivial, ih _ _ _ _ (hnext undef w η ?_) hcount⟩
        rw [b1.skip hw]
        exact .pure mat_undef rfl
  refine main ops.size _ a _ η ⟨by simp, ?_, ?_, hf.sz, hf.df, ?_⟩ ?_
  · intro j o e _ h
    simp only [Array.getD_eq_getD_getElem?, Array.getElem?_replicate] at h
    split at h <;> simp at h
  · intro t
    rw [foldT_keep tf 0 _ (fun i e _ _ => by simp only [Array.getD_eq_getD_getElem?, Array.getElem?_replicate]; split <;> simp)]
    exact hf.tm t
  · have e1 : foldH tf (fun k => (Array.replicate ops.size false).getD k false) 0 (fun id => s0.heap.getD id .gone) = fun id => s0.heap.getD id .gone := by
      funext id
      exact foldH_keep tf 0 _ (fun i e _ _ => by simp only [Array.getD_eq_getD_getElem?, Array.getElem?_replicate]; split <;> simp)
    rw [e1]
    have h := hf.hp
    exact ⟨h.hp, h.ds, h.fr, h.sz, fun id A hA => .inl (h.dm id A hA), ⟨h.bg.os, h.bg.tape, h.bg.output⟩, h.an⟩
  · exact Nat.le_trans (List.length_filter_le _ _) (by simp)
end
end Go.Proofs.YtkihnmpjpbfiaaaDoor.Ev
