/- Helper: sorted pairs, plainly: set, dropped, by page. the sort of pairs, by the shelf's contract; walked closure. all pairs of a store told; walked. No condition. -/
import Derived.Test.YteilmbhnbmmcjaaKm
import Derived.Shelf.SlSortCmp.WholeK
import Derived.Shelf.SlSortCmp.NoneTotal
import Derived.Shelf.SlGeneric
import Derived.Ground.SlsfProg
import Derived.Test.YteilmbhnbmmcjaaKi
namespace Go.Proofs.Yteilmbhnbmmcjaa.B
open Go.RowKit Go.Proofs.YteilmbhnbmmcjaaW.PrintWords
/-- No later key is below an earlier one. -/
def Sorted (l : List Pr) : Prop := ∀ i j, i < j → j < l.length → kLt (prA l j).k (prA l i).k = false
/-- Keys rise, pair by pair. -/
def St (l : List Pr) : Prop := l.Pairwise (fun a b => kLt a.k b.k = true)
theorem rises_of_st {l : List Pr} (h : St l) : Rises l := fun i j hij hj => by
  have := (List.pairwise_iff_getElem.1 h) i j (by omega) hj hij
  rw [prA_get l i (by omega), prA_get l j hj]; exact this
theorem st_of_rises {l : List Pr} (h : Rises l) : St l := List.pairwise_iff_getElem.2 (fun i j hi hj hij => by
  have := h i j hij hj
  rwa [prA_get l i hi, prA_get l j hj] at this)
theorem kLt_ne {a b : List UInt8} (h : kLt a b = true) : a ≠ b := fun e => by subst e; rw [kLt_irr] at h; cases h
theorem St.ext : ∀ {l l' : List Pr}, St l → St l' → (∀ x, x ∈ l ↔ x ∈ l') → l = l'
  | [], [], _, _, _ => rfl
  | [], b :: t', _, _, h => by have := (h b).2 (by simp); simp at this
  | a :: t, [], _, _, h => by have := (h a).1 (by simp); simp at this
  | a :: t, b :: t', h1, h2, h => by
    have p1 := List.pairwise_cons.1 h1
    have p2 := List.pairwise_cons.1 h2
    have e : a = b := by
      have ha := (h a).1 (by simp)
      have hb := (h b).2 (by simp)
      rcases List.mem_cons.1 ha with ha | ha
      · exact ha
      · rcases List.mem_cons.1 hb with hb | hb
        · exact hb.symm
        · have q1 := p2.1 a ha
          have q2 := p1.1 b hb
          have := kLt_asym _ _ q1
          rw [this] at q2; cases q2
    subst e
    have hn1 : a ∉ t := fun ha => kLt_ne (p1.1 a ha) rfl
    have hn2 : a ∉ t' := fun ha => kLt_ne (p2.1 a ha) rfl
    rw [St.ext (l := t) (l' := t') p1.2 p2.2 (fun x => ⟨fun hx => by
      rcases List.mem_cons.1 ((h x).1 (by simp [hx])) with e | e
      · subst e; exact absurd hx hn1
      · exact e, fun hx => by
      rcases List.mem_cons.1 ((h x).2 (by simp [hx])) with e | e
      · subst e; exact absurd hx hn2
      · exact e⟩)]
def set1 : List Pr → Pr → List Pr
  | [], x => [x]
  | y :: l, x => if kLt y.k x.k = true then y :: set1 l x else if y.k = x.k then x :: l else x :: y :: l
def drop1 (l : List Pr) (x : Pr) : List Pr := l.filter (fun y => decide (y.k ≠ x.k))
theorem mem_set1 : ∀ {l : List Pr} (_ : St l) (p x : Pr), x ∈ set1 l p ↔ x = p ∨ (x ∈ l ∧ x.k ≠ p.k)
  | [], _, p, x => by simp [set1]
  | y :: t, h, p, x => by
    have p1 := List.pairwise_cons.1 h
    unfold set1
    by_cases h1 : kLt y.k p.k = true
    · rw [if_pos h1, List.mem_cons, mem_set1 p1.2 p x, List.mem_cons]
      have := kLt_ne h1
      constructor
      · rintro (rfl | rfl | ⟨h2, h3⟩)
        · exact .inr ⟨.inl rfl, this⟩
        · exact .inl rfl
        · exact .inr ⟨.inr h2, h3⟩
      · rintro (rfl | ⟨rfl | h2, h3⟩)
        · exact .inr (.inl rfl)
        · exact .inl rfl
        · exact .inr (.inr ⟨h2, h3⟩)
    · rw [if_neg h1]
      by_cases h2 : y.k = p.k
      · rw [if_pos h2, List.mem_cons, List.mem_cons]
        constructor
        · rintro (rfl | h3)
          · exact .inl rfl
          · exact .inr ⟨.inr h3, fun e => kLt_ne (p1.1 x h3) (h2.trans e.symm)⟩
        · rintro (rfl | ⟨rfl | h3, h4⟩)
          · exact .inl rfl
          · exact absurd h2 h4
          · exact .inr h3
      · rw [if_neg h2, List.mem_cons, List.mem_cons]
        have h1' : kLt y.k p.k = false := by simpa using h1
        have h5 : kLt p.k y.k = true := by
          cases h6 : kLt p.k y.k with
          | true => rfl
          | false => exact absurd (kLt_tri _ _ h1' h6) h2
        constructor
        · rintro (rfl | rfl | h3)
          · exact .inl rfl
          · exact .inr ⟨.inl rfl, h2⟩
          · exact .inr ⟨.inr h3, fun e => kLt_ne (kLt_trans _ _ _ h5 (p1.1 x h3)) e.symm⟩
        · rintro (rfl | ⟨h3, _⟩)
          · exact .inl rfl
          · exact .inr h3
theorem st_set1 : ∀ {l : List Pr} (_ : St l) (p : Pr), St (set1 l p)
  | [], _, p => List.pairwise_singleton _ _
  | y :: t, h, p => by
    have p1 := List.pairwise_cons.1 h
    unfold set1
    by_cases h1 : kLt y.k p.k = true
    · rw [if_pos h1]
      refine List.pairwise_cons.2 ⟨fun x hx => ?_, st_set1 p1.2 p⟩
      rcases (mem_set1 p1.2 p x).1 hx with rfl | ⟨h2, _⟩
      · exact h1
      · exact p1.1 x h2
    · rw [if_neg h1]
      by_cases h2 : y.k = p.k
      · rw [if_pos h2]
        exact List.pairwise_cons.2 ⟨fun x hx => by rw [← h2]; exact p1.1 x hx, p1.2⟩
      · rw [if_neg h2]
        have h1' : kLt y.k p.k = false := by simpa using h1
        have h5 : kLt p.k y.k = true := by
          cases h6 : kLt p.k y.k with
          | true => rfl
          | false => exact absurd (kLt_tri _ _ h1' h6) h2
        refine List.pairwise_cons.2 ⟨fun x hx => ?_, h⟩
        rcases List.mem_cons.1 hx with rfl | hx
        · exact h5
        · exact kLt_trans _ _ _ h5 (p1.1 x hx)
theorem mem_drop1 (l : List Pr) (p x : Pr) : x ∈ drop1 l p ↔ x ∈ l ∧ x.k ≠ p.k := by simp [drop1]
theorem st_drop1 {l : List Pr} (h : St l) (p : Pr) : St (drop1 l p) := List.Pairwise.filter _ h
theorem set1_mid : ∀ (A B : List Pr) (x : Pr), (∀ y ∈ A, kLt y.k x.k = true) → (∀ y ∈ B, kLt y.k x.k = false ∧ y.k ≠ x.k) → set1 (A ++ B) x = A ++ x :: B
  | [], [], x, _, _ => rfl
  | [], y :: B, x, _, hB => by
    have := hB y (by simp)
    simp only [List.nil_append]
    unfold set1
    rw [if_neg (by rw [this.1]; decide), if_neg this.2]
  | a :: A, B, x, hA, hB => by
    simp only [List.cons_append]
    conv => lhs; unfold set1
    rw [if_pos (hA a (by simp)), set1_mid A B x (fun y hy => hA y (by simp [hy])) hB]
theorem set1_over : ∀ (A B : List Pr) (y x : Pr), (∀ z ∈ A, kLt z.k x.k = true) → y.k = x.k → set1 (A ++ y :: B) x = A ++ x :: B
  | [], B, y, x, _, h => by
    simp only [List.nil_append]
    unfold set1
    rw [if_neg (by rw [h, kLt_irr]; decide), if_pos h]
  | a :: A, B, y, x, hA, h => by
    simp only [List.cons_append]
    conv => lhs; unfold set1
    rw [if_pos (hA a (by simp)), set1_over A B y x (fun z hz => hA z (by simp [hz])) h]
theorem prA_mem {l : List Pr} {y : Pr} (h : y ∈ l) : ∃ i, i < l.length ∧ y = prA l i := by
  obtain ⟨i, hi, rfl⟩ := List.getElem_of_mem h
  exact ⟨i, hi, (prA_get l i hi).symm⟩
theorem take_prA {l : List Pr} {n : Nat} {y : Pr} (h : y ∈ l.take n) : ∃ i, i < n ∧ i < l.length ∧ y = prA l i := by
  obtain ⟨i, hi, rfl⟩ := List.getElem_of_mem h
  rw [List.length_take] at hi
  exact ⟨i, by omega, by omega, by rw [prA_get l i (by omega), List.getElem_take]⟩
theorem drop_prA {l : List Pr} {n : Nat} {y : Pr} (h : y ∈ l.drop n) : ∃ i, n ≤ i ∧ i < l.length ∧ y = prA l i := by
  obtain ⟨i, hi, rfl⟩ := List.getElem_of_mem h
  rw [List.length_drop] at hi
  exact ⟨n + i, by omega, by omega, by rw [prA_get l (n + i) (by omega), List.getElem_drop]⟩
theorem drop_split (l : List Pr) (n : Nat) (h : n < l.length) : l.drop n = prA l n :: l.drop (n + 1) := by
  rw [prA_get l n h]; exact List.drop_eq_getElem_cons h
/-- A pair set where its key is not. -/
theorem set1_ins {P : List Pr} (hr : Rises P) {x : Pr} {n : Nat} (hat : IsAt P x.k n) (hh : hasKey P x.k n = false) : set1 P x = P.take n ++ x :: P.drop n := by
  conv => lhs; rw [← List.take_append_drop n P]
  refine set1_mid _ _ x (fun y hy => ?_) (fun y hy => ?_)
  · obtain ⟨i, h1, h2, rfl⟩ := take_prA hy
    exact hat.2.1 i h1
  · obtain ⟨i, h1, h2, rfl⟩ := drop_prA hy
    refine ⟨hat.2.2 i h1 h2, fun e => ?_⟩
    by_cases e2 : i = n
    · subst e2
      simp [hasKey, h2, e] at hh
    · have := hr n i (by omega) h2
      rw [e, hat.2.2 n (Nat.le_refl _) (by omega)] at this
      cases this
theorem set1_rep {P : List Pr} {x : Pr} {n : Nat} (hat : IsAt P x.k n) (hh : hasKey P x.k n = true) : set1 P x = P.set n x := by
  have hn : n < P.length ∧ (prA P n).k = x.k := by simpa [hasKey] using hh
  conv => lhs; rw [← List.take_append_drop n P, drop_split P n hn.1]
  rw [set1_over _ _ _ x (fun y hy => by
    obtain ⟨i, h1, h2, rfl⟩ := take_prA hy
    exact hat.2.1 i h1) hn.2]
  rw [List.set_eq_take_append_cons_drop, if_pos hn.1]
theorem drop1_no {P : List Pr} (hr : Rises P) {x : Pr} {n : Nat} (hat : IsAt P x.k n) (hh : hasKey P x.k n = false) : drop1 P x = P := by
  unfold drop1
  rw [List.filter_eq_self]
  intro y hy
  obtain ⟨i, h1, rfl⟩ := prA_mem hy
  simp only [ne_eq, decide_eq_true_eq]
  intro e
  rcases Nat.lt_trichotomy i n with h2 | rfl | h2
  · have := hat.2.1 i h2; rw [e, kLt_irr] at this; cases this
  · simp [hasKey, h1, e] at hh
  · have := hr n i h2 h1
    rw [e, hat.2.2 n (Nat.le_refl _) (by omega)] at this; cases this
theorem drop1_is {P : List Pr} (hr : Rises P) {x : Pr} {n : Nat} (hat : IsAt P x.k n) (hh : hasKey P x.k n = true) : drop1 P x = P.take n ++ P.drop (n + 1) := by
  have hn : n < P.length ∧ (prA P n).k = x.k := by simpa [hasKey] using hh
  conv => lhs; rw [← List.take_append_drop n P, drop_split P n hn.1]
  unfold drop1
  rw [List.filter_append, List.filter_cons_of_neg (by simp [hn.2])]
  congr 1
  · rw [List.filter_eq_self]
    intro y hy
    obtain ⟨i, h1, h2, rfl⟩ := take_prA hy
    simpa using kLt_ne (hat.2.1 i h1)
  · rw [List.filter_eq_self]
    intro y hy
    obtain ⟨i, h1, h2, rfl⟩ := drop_prA hy
    have := hr n i (by omega) h2
    rw [hn.2] at this
    simpa using (kLt_ne this).symm
/-- The pairs of a page. -/
def fl (k : Nat) (m : List Pr) : List Pr := m.filter (fun x => decide (bucket x.k = k))
theorem mem_fl (k : Nat) (m : List Pr) (x : Pr) : x ∈ fl k m ↔ x ∈ m ∧ bucket x.k = k := by simp [fl]
theorem st_fl {m : List Pr} (h : St m) (k : Nat) : St (fl k m) := List.Pairwise.filter _ h
theorem fl_set1 {m : List Pr} (h : St m) (p : Pr) (k : Nat) : fl k (set1 m p) = if bucket p.k = k then set1 (fl k m) p else fl k m := by
  by_cases hk : bucket p.k = k
  · rw [if_pos hk]
    refine St.ext (st_fl (st_set1 h p) k) (st_set1 (st_fl h k) p) (fun x => ?_)
    rw [mem_fl, mem_set1 h, mem_set1 (st_fl h k), mem_fl]
    constructor
    · rintro ⟨rfl | ⟨h1, h2⟩, h3⟩
      · exact .inl rfl
      · exact .inr ⟨⟨h1, h3⟩, h2⟩
    · rintro (rfl | ⟨⟨h1, h3⟩, h2⟩)
      · exact ⟨.inl rfl, hk⟩
      · exact ⟨.inr ⟨h1, h2⟩, h3⟩
  · rw [if_neg hk]
    refine St.ext (st_fl (st_set1 h p) k) (st_fl h k) (fun x => ?_)
    rw [mem_fl, mem_set1 h, mem_fl]
    constructor
    · rintro ⟨rfl | ⟨h1, h2⟩, h3⟩
      · exact absurd h3 hk
      · exact ⟨h1, h3⟩
    · rintro ⟨h1, h3⟩
      exact ⟨.inr ⟨h1, fun e => hk (by rw [← e]; exact h3)⟩, h3⟩
theorem fl_drop1 (m : List Pr) (p : Pr) (k : Nat) : fl k (drop1 m p) = if bucket p.k = k then drop1 (fl k m) p else fl k m := by
  unfold fl drop1
  by_cases hk : bucket p.k = k
  · rw [if_pos hk, List.filter_filter, List.filter_filter]
    congr 1; funext x; exact Bool.and_comm _ _
  · rw [if_neg hk, List.filter_filter]
    apply List.filter_congr
    intro x _
    by_cases h : bucket x.k = k
    · have : x.k ≠ p.k := fun e => hk (by rw [← e]; exact h)
      simp [h, this]
    · simp [h]
/-- What is done to a row by a pair. -/
def act1 (drop : Bool) (l : List Pr) (p : Pr) : List Pr := if drop then drop1 l p else set1 l p
theorem st_act1 {l : List Pr} (h : St l) (b : Bool) (p : Pr) : St (act1 b l p) := by
  cases b
  · exact st_set1 h p
  · exact st_drop1 h p
theorem fl_act1 {m : List Pr} (h : St m) (b : Bool) (p : Pr) (k : Nat) : fl k (act1 b m p) = if bucket p.k = k then act1 b (fl k m) p else fl k m := by
  cases b
  · exact fl_set1 h p k
  · exact fl_drop1 m p k
/-- The law's own row with a pair, or without its key. -/
def wF : List Pr → Bool → Pr → List Pr
  | [], b, p => if b then [] else [p]
  | y :: l, b, p => (if (!b && !kLt y.k p.k) = true then [p] else []) ++ ((if y.k ≠ p.k then [y] else []) ++ wF l (b || (!b && !kLt y.k p.k)) p)
theorem wF_true : ∀ (l : List Pr) (p : Pr), wF l true p = drop1 l p
  | [], _ => rfl
  | y :: l, p => by
    unfold wF
    have := wF_true l p
    simp only [Bool.not_true, Bool.false_and, Bool.or_false]
    rw [this]
    unfold drop1
    by_cases h : y.k = p.k
    · simp [h]
    · simp [h]
theorem wF_false : ∀ {l : List Pr} (_ : St l) (p : Pr), wF l false p = set1 l p
  | [], _, _ => rfl
  | y :: l, h, p => by
    have p1 := List.pairwise_cons.1 h
    unfold wF
    conv => rhs; unfold set1
    by_cases h1 : kLt y.k p.k = true
    · have h2 := kLt_ne h1
      simp [h1, h2, wF_false p1.2 p]
    · have h1' : kLt y.k p.k = false := by simpa using h1
      by_cases h2 : y.k = p.k
      · have : drop1 l p = l := by
          unfold drop1
          rw [List.filter_eq_self]
          intro x hx
          have := kLt_ne (p1.1 x hx)
          rw [h2] at this
          simpa using this.symm
        simp [h2, wF_true, this, kLt_irr]
      · have h5 : kLt p.k y.k = true := by
          cases h6 : kLt p.k y.k with
          | true => rfl
          | false => exact absurd (kLt_tri _ _ h1' h6) h2
        have : drop1 l p = l := by
          unfold drop1
          rw [List.filter_eq_self]
          intro x hx
          have := kLt_ne (kLt_trans _ _ _ h5 (p1.1 x hx))
          simpa using this.symm
        simp [h1', h2, wF_true, this]
theorem wF_act1 {l : List Pr} (h : St l) (b : Bool) (p : Pr) : wF l b p = act1 b l p := by
  cases b
  · exact wF_false h p
  · exact wF_true l p
theorem sorted_perm {m L : List Pr} (hm : St m) (hp : L.Perm m) (hs : Sorted L) : L = m := by
  have h1 : m.Pairwise (fun a b => a.k ≠ b.k) := hm.imp (fun h => kLt_ne h)
  have h2 : L.Pairwise (fun a b => a.k ≠ b.k) := (hp.pairwise_iff (fun h => Ne.symm h)).2 h1
  have h3 : St L := List.pairwise_iff_getElem.2 (fun i j hi hj hij => by
    have q1 := List.pairwise_iff_getElem.1 h2 i j hi hj hij
    have q2 := hs i j hij hj
    rw [prA_get L i hi, prA_get L j hj] at q2
    cases h : kLt L[i].k L[j].k with
    | true => rfl
    | false => exact absurd (kLt_tri _ _ h q2) q1)
  exact St.ext h3 hm (fun x => hp.mem_iff)
theorem fl_cons (k : Nat) (x : Pr) (m : List Pr) : fl k (x :: m) = if bucket x.k = k then x :: fl k m else fl k m := by
  unfold fl
  by_cases h : bucket x.k = k
  · simp [h]
  · simp [h]
theorem flat_perm : ∀ m : List Pr, (fl 0 m ++ (fl 1 m ++ (fl 2 m ++ fl 3 m))).Perm m
  | [] => List.Perm.refl _
  | x :: m => by
    have ih := flat_perm m
    have hb := bucket_lt x.k
    simp only [fl_cons]
    rcases (show bucket x.k = 0 ∨ bucket x.k = 1 ∨ bucket x.k = 2 ∨ bucket x.k = 3 by omega) with h | h | h | h
    · simp only [h, if_true, show ((0 : Nat) = 1) = False by simp, show ((0 : Nat) = 2) = False by simp, show ((0 : Nat) = 3) = False by simp, if_false]
      exact List.Perm.cons x ih
    · simp only [h, if_true, show ((1 : Nat) = 0) = False by simp, show ((1 : Nat) = 2) = False by simp, show ((1 : Nat) = 3) = False by simp, if_false]
      exact List.perm_middle.trans (List.Perm.cons x ih)
    · simp only [h, if_true, show ((2 : Nat) = 0) = False by simp, show ((2 : Nat) = 1) = False by simp, show ((2 : Nat) = 3) = False by simp, if_false]
      refine (List.Perm.append_left _ List.perm_middle).trans (List.perm_middle.trans (List.Perm.cons x ih))
    · simp only [h, if_true, show ((3 : Nat) = 0) = False by simp, show ((3 : Nat) = 1) = False by simp, show ((3 : Nat) = 2) = False by simp, if_false]
      refine (List.Perm.append_left _ ((List.Perm.append_left _ List.perm_middle).trans List.perm_middle)).trans (List.perm_middle.trans (List.Perm.cons x ih))
end Go.Proofs.Yteilmbhnbmmcjaa.B
namespace Go.Proofs.Yteilmbhnbmmcjaa.B
open Go.RowKit Go.Proofs.YteilmbhnbmmcjaaW.PrintWords Go.Proofs.Yteilmbhnbmmcjaa.Later
open Go.Shelf Go.Sort
set_option maxRecDepth 100000
set_option maxHeartbeats 1600000
def srtIv_ren : Go.Shelf.Ren := ⟨fun | 6 => 58 | 15 => 82 | 14 => 81 | 28 => 101 | 29 => 102 | 20 => 93 | 21 => 94 | 22 => 95 | 23 => 96 | 24 => 97 | 25 => 98 | 26 => 99 | 27 => 100 | 46 => 105 | 47 => 106 | 48 => 107 | 49 => 108 | 50 => 109 | 57 => 111 | n => n, fun | 22 => 58 | 24 => 63 | 25 => 117 | 3 => 3 | 39 => 127 | 0 => 0 | 53 => 51 | 55 => 84 | 4 => 4 | 46 => 160 | 45 => 159 | 50 => 119 | 5 => 5 | 9 => 9 | 66 => 168 | 70 => 138 | 76 => 174 | 77 => 175 | n => n, fun | n => n⟩
theorem srtIv : Go.Proofs.SlLaysF0.n6 Try.prog srtIv_ren := {
  mixed := by kernel_rfl
  f6 := ⟨Try.f58.name, by decide, Try.func58.trans (congrArg some (by kernel_rfl))⟩
  f14 := ⟨Try.f81.name, by decide, Try.func81.trans (congrArg some (by kernel_rfl))⟩
  f15 := Try.func82.trans (congrArg some (by kernel_rfl))
  f20 := ⟨Try.f93.name, by decide, Try.func93.trans (congrArg some (by kernel_rfl))⟩
  f21 := ⟨Try.f94.name, by decide, Try.func94.trans (congrArg some (by kernel_rfl))⟩
  f22 := ⟨Try.f95.name, by decide, Try.func95.trans (congrArg some (by kernel_rfl))⟩
  f23 := ⟨Try.f96.name, by decide, Try.func96.trans (congrArg some (by kernel_rfl))⟩
  f24 := ⟨Try.f97.name, by decide, Try.func97.trans (congrArg some (by kernel_rfl))⟩
  f25 := ⟨Try.f98.name, by decide, Try.func98.trans (congrArg some (by kernel_rfl))⟩
  f26 := ⟨Try.f99.name, by decide, Try.func99.trans (congrArg some (by kernel_rfl))⟩
  f27 := ⟨Try.f100.name, by decide, Try.func100.trans (congrArg some (by kernel_rfl))⟩
  f28 := Try.func101.trans (congrArg some (by kernel_rfl))
  f29 := Try.func102.trans (congrArg some (by kernel_rfl))
  f46 := ⟨Try.f105.name, by decide, Try.func105.trans (congrArg some (by kernel_rfl))⟩
  f47 := Try.func106.trans (congrArg some (by kernel_rfl))
  f48 := Try.func107.trans (congrArg some (by kernel_rfl))
  f49 := ⟨Try.f108.name, by decide, Try.func108.trans (congrArg some (by kernel_rfl))⟩
  f50 := ⟨Try.f109.name, by decide, Try.func109.trans (congrArg some (by kernel_rfl))⟩
  f57 := ⟨Try.f111.name, by decide, Try.func111.trans (congrArg some (by kernel_rfl))⟩
  t0 := Try.underlying0
  a0 := Try.isAgg0
  z0 := Try.sizeOf0
  v0 := Try.zeroValue0
  t3 := Try.underlying3
  a3 := Try.isAgg3
  z3 := Try.sizeOf3
  v3 := Try.zeroValue3
  t4 := Try.underlying4
  a4 := Try.isAgg4
  z4 := Try.sizeOf4
  v4 := Try.zeroValue4
  t5 := Try.underlying5
  a5 := Try.isAgg5
  z5 := Try.sizeOf5
  v5 := Try.zeroValue5
  t9 := Try.underlying9
  a9 := Try.isAgg9
  z9 := Try.sizeOf9
  v9 := Try.zeroValue9
  t22 := Try.underlying58
  a22 := Try.isAgg58
  z22 := Try.sizeOf58
  v22 := Try.zeroValue58
  t25 := Try.underlying117
  a25 := Try.isAgg117
  z25 := Try.sizeOf117
  v25 := Try.zeroValue117
  t39 := Try.underlying127
  a39 := Try.isAgg127
  z39 := Try.sizeOf127
  v39 := Try.zeroValue127
  t45 := Try.underlying159
  a45 := Try.isAgg159
  z45 := Try.sizeOf159
  v45 := Try.zeroValue159
  t46 := Try.underlying160
  a46 := Try.isAgg160
  z46 := Try.sizeOf160
  v46 := Try.zeroValue160
  t50 := Try.underlying119
  a50 := Try.isAgg119
  z50 := Try.sizeOf119
  v50 := Try.zeroValue119
  t53 := Try.underlying51
  a53 := Try.isAgg51
  z53 := Try.sizeOf51
  v53 := Try.zeroValue51
  t55 := Try.underlying84
  a55 := Try.isAgg84
  z55 := Try.sizeOf84
  v55 := Try.zeroValue84
  t66 := Try.underlying168
  a66 := Try.isAgg168
  z66 := Try.sizeOf168
  v66 := Try.zeroValue168
  t70 := Try.underlying138
  a70 := Try.isAgg138
  z70 := Try.sizeOf138
  v70 := Try.zeroValue138
  t76 := Try.underlying174
  a76 := Try.isAgg174
  z76 := Try.sizeOf174
  v76 := Try.zeroValue174
  t77 := Try.underlying175
  a77 := Try.isAgg175
  z77 := Try.sizeOf175
  v77 := Try.zeroValue175
  }
def encP (x : Pr) : List Value := [.string (bs x.k), .string (bs x.v)]
def cfP (x y : Pr) : Int := kCmp x.k y.k
theorem ltP (x y : Pr) : ltOf cfP x y = kLt x.k y.k := kCmp_neg _ _
theorem kLt_ntrans (a b c : List UInt8) (h1 : kLt a b = false) (h2 : kLt b c = false) : kLt a c = false := by
  cases h : kLt a c with
  | false => rfl
  | true =>
    cases h3 : kLt b a with
    | true => have := kLt_trans b a c h3 h; rw [this] at h2; cases h2
    | false => have e := kLt_tri a b h1 h3; subst e; rw [h] at h2; cases h2
theorem swoP : SWO (ltOf cfP) where
  irrefl x := by rw [ltP, kLt_irr]
  trans x y z h1 h2 := by rw [ltP] at *; exact kLt_trans _ _ _ h1 h2
  ntrans x y z h1 h2 := by rw [ltP] at *; exact kLt_ntrans _ _ _ h1 h2
theorem closure59 (x y : Pr) (W : World) : Calls Try.prog 59 #[.agg #[.string (bs x.k), .string (bs x.v)], .agg #[.string (bs y.k), .string (bs y.v)]] W fun e w' => e = .returned (.int .i64 (cfP x y)) ∧ ∃ q os', w' = grow (W.drewN q) os' := by
  have hcon := fun W' => cmp_any x.k y.k W'
  unfold cfP
  generalize kCmp x.k y.k = r at hcon ⊢
  go_enter Try.func59, Try.ntmps59
  go_wp2_with (go_at_call 60; refine (hcon _).mono ?_; rintro e w' ⟨rfl, rfl⟩)
  go_ret
  exact ⟨rfl, 0, _, by rw [alloc_eq_grow, alloc_eq_grow, grow_grow]; rfl⟩
theorem cmpLays59 (blk off size : Nat) (w : World) : CmpLays Try.prog 59 #[] encP 2 cfP blk off size w := fun _ _ _ _ x y => closure59 x y _
theorem enter59 (args : Array Value) (w : World) : (callFunc 59 args).run Try.prog w = .ok (.enter 59 args) w := (enters_of Try.func59 (by kernel_rfl) rfl) args w
theorem getB (l : List Pr) (i : Nat) (h : i < l.length) : l.toArray[i]! = prA l i := by
  rw [prA_get l i h, getElem!_pos l.toArray i (by simpa using h)]; simp
theorem holdsP {w : World} {g : Nat} {cur : Array Value} {L : List Pr} (hb : Blk w g cur 63) (hC : Kd.C prK w (some ⟨g, 0, none⟩) L.length L) : HoldsK encP 2 w g 0 L.toArray := by
  intro j hj
  rw [size_flatK] at hj
  have hj2 : j < L.length * 2 := by simpa using hj
  refine ⟨?_, hb.free _⟩
  obtain ⟨ad, e, d0, d1⟩ := at_pr hC ((j / 2 : Nat) : Int) (by omega) (by omega)
  cases e
  rw [Int.toNat_natCast] at d0 d1
  rw [get_flatK _ _ _ _ hj, getB _ _ (by omega)]
  rcases (show j % 2 = 0 ∨ j % 2 = 1 by omega) with h | h
  · rw [h]
    have e1 : 0 + j = 0 + j / 2 * 2 := by omega
    rw [Addr.add_lit] at d0
    rw [e1]; exact d0
  · rw [h]
    have e1 : 0 + j = 0 + j / 2 * 2 + 1 := by omega
    rw [Addr.add_lit] at d1
    rw [e1]; exact d1
theorem readsP {w : World} {g : Nat} {d : Array Pr} (h : HoldsK encP 2 w g 0 d) (hn : d.size ≤ 10000) : Kd.C prK w (some ⟨g, 0, none⟩) d.toList.length d.toList := by
  refine ⟨rfl, by simp; omega, fun _ => ⟨⟨g, 0, none⟩, rfl, fun j p hj => ?_⟩⟩
  · have hj0 : j < d.size := by have := (List.getElem?_eq_some_iff.1 hj).1; simpa using this
    have hp : d[j]! = p := by
      have := (List.getElem?_eq_some_iff.1 hj).2
      rw [getElem!_pos d j hj0, ← this]; simp
    refine ⟨[.string (bs p.k), .string (bs p.v)], rfl, ⟨[.string (bs p.k)], [.string (bs p.v)], rfl, rfl, rfl⟩, fun i u hi => ?_⟩
    have c0 := (h.cell hj0 (c := 0) (by omega)).1
    have c1 := (h.cell hj0 (c := 1) (by omega)).1
    rw [hp] at c0 c1
    rw [Addr.add_lit]
    show w.cell? ⟨g, 0 + (j * 2 + i), none⟩ = _
    rcases i with _ | _ | i
    · have := Option.some.inj hi; subst this; exact c0
    · have := Option.some.inj hi; subst this; rw [← Nat.add_assoc]; exact c1
    · simp at hi
theorem mut_sort {w : World} {g n : Nat} {d : Array Pr} {os : Array Obj} : Mut (only g) w (sortWorldK encP 2 w g 0 n d os) := by
  refine ⟨rfl, rfl, rfl, size_sortWorldK_c _ _ _ _ _ _ _ _, fun i hi hs => ?_⟩
  unfold sortWorldK
  rw [heap_grow_old _ _ (by rw [size_putRowK]; exact hi)]
  unfold putRowK putRow mapBlock
  simp only [Array.getElem?_modify]
  rw [if_neg (fun e => hs e.symm)]
  rfl
theorem sort_any (W : World) (base : Nat) (v : Value) (L : List Pr) (hR : prK.R 63 W base (fun _ => True) v L) (hn : L.length ≤ 10000) :
    Calls Try.prog 58 #[v, .func (.func 59) #[] #[]] W fun e W' => e = .returned (.tuple #[]) ∧ Mut (fun k => v.ownBlock = some k) W W' ∧ ∃ L', L'.Perm L ∧ Sorted L' ∧ ∀ A c, v = .slice A L.length c → Kd.C prK W' A L'.length L' := by
  obtain ⟨A, c, rfl, hlc, hC⟩ := Kd.R_reads hR
  by_cases h0 : L = []
  · subst h0
    have h := AnyF.slices_SortFunc_none srtIv A c (.func (.func 59) #[] #[]) W
    change Calls Try.prog 58 _ _ _ at h
    refine h.mono ?_
    rintro e w' ⟨rfl, rfl⟩
    exact ⟨rfl, Mut.refl _ _, [], List.Perm.refl _, fun i j _ h => by simp at h, fun A' c' e => by cases e; exact hC⟩
  · have hpos : 0 < L.length := List.length_pos_iff.2 h0
    obtain ⟨_, inner, ho, _⟩ := hR
    obtain ⟨_, ho⟩ := ho
    rcases ho with ⟨_, h2⟩ | ⟨g, cap, cur, e, hg, hh, _⟩
    · omega
    · injection e with e1 e2 e3
      subst e1 e3
      have hb : Blk W g cur 63 := hh
      have hH := holdsP hb hC
      have h := AnyQ.slices_SortFunc srtIv 2 Try.isAgg63 Try.sizeOf63 encP (fun _ => rfl) (fun x v hv => by simp [encP] at hv; rcases hv with rfl | rfl <;> rfl) cfP swoP 59 #[] g 0 c L.toArray W enter59 (cmpLays59 g 0 L.toArray.size W) hH hb.lt (by simp; omega)
      change Calls Try.prog 58 _ _ _ at h
      have hs : L.toArray.size = L.length := by simp
      rw [hs] at h
      refine h.mono ?_
      rintro e w' ⟨rfl, d', n, os, hp, hso, rfl⟩
      have hsz : d'.size = L.length := by rw [hp.1, hs]
      refine ⟨rfl, mut_sort.mono (fun i _ h => by obtain rfl : i = g := h; rfl), d'.toList, ?_, ?_, ?_⟩
      · have := hp.2.2
        have e1 : (d'.extract 0 L.length).toList = d'.toList := by rw [← hsz]; simp
        have e2 : (L.toArray.extract 0 L.length).toList = L := by simp
        rwa [e1, e2] at this
      · intro i j hij hj
        have hj' : j < d'.size := by simpa using hj
        have := hso i j (by omega) hij (by rw [hsz] at hj'; exact hj')
        rw [ltP] at this
        rw [prA_get _ _ hj, prA_get _ _ (by omega)]
        rw [getElem!_pos d' j hj', getElem!_pos d' i (by omega)] at this
        simpa using this
      · intro A' c' e
        injection e with e1 e2 e3
        subst e1 e3
        exact readsP (holdsK_sortWorldK_c encP 2 W g 0 L.toArray d' n os hH hb.lt (by rw [hsz, hs])) (by rw [hsz]; exact hn)
end Go.Proofs.Yteilmbhnbmmcjaa.B
namespace Go.Proofs.Yteilmbhnbmmcjaa.B
open Go.RowKit Go.Proofs.YteilmbhnbmmcjaaW.PrintWords Go.Proofs.Yteilmbhnbmmcjaa.Later
set_option maxRecDepth 100000
set_option maxHeartbeats 3200000
theorem nilEq55s (g : Nat) (W : World) : (binOp .eql 55 (.pointer (some ⟨g, 0, none⟩)) (.pointer none)).run Try.prog W = .ok (.bool false) W := by kernel_rfl
/-- The pages' pairs, one page behind the other. -/
def flatP (pg : Nat → Option (List UInt8)) (i : Nat) : List Pr := (List.range i).flatMap (fun k => (loadP (pg k) k).2)
theorem flatP_succ (pg : Nat → Option (List UInt8)) (i : Nat) : flatP pg (i + 1) = flatP pg i ++ (loadP (pg i) i).2 := by
  rw [flatP, List.range_succ, List.flatMap_append]; simp [flatP]
def KallRel (pg : Nat → Option (List UInt8)) (w : World) (v c : Value) (wr : World) : Prop :=
  ∃ i : Nat, i ≤ 4 ∧ c = .int .i64 i ∧ (∀ k, k < i → (loadP (pg k) k).1 = 0) ∧ prK.R 63 wr w.heap.size (fun _ => True) v (flatP pg i) ∧ Below w.heap.size w wr
/-- What is told: the first page's error that has one, or all pairs. -/
def AllPost (pg : Nat → Option (List UInt8)) (w : World) (e : Ending) (w' : World) : Prop :=
  ((∃ k, k < 4 ∧ (∀ j, j < k → (loadP (pg j) j).1 = 0) ∧ (loadP (pg k) k).1 ≠ 0 ∧ e = .returned (.tuple #[.slice none 0 0, .int .i64 (loadP (pg k) k).1])) ∨
   ((∀ k, k < 4 → (loadP (pg k) k).1 = 0) ∧ ∃ L A c, L.Perm (flatP pg 4) ∧ Sorted L ∧ e = .returned (.tuple #[.slice A L.length c, .int .i64 0]) ∧ Kd.C prK w' A L.length L)) ∧ Below w.heap.size w w'
theorem flatP_len {pg : Nat → Option (List UInt8)} (h : ∀ k, k < 4 → (loadP (pg k) k).2.length ≤ 1000) : ∀ i, i ≤ 4 → (flatP pg i).length ≤ 1000 * i
  | 0, _ => by simp [flatP]
  | i + 1, hi => by
    have h1 := flatP_len h i (by omega)
    have h2 := h i (by omega)
    rw [flatP_succ, List.length_append]
    omega
theorem kall_any (M : Md) (a g : Nat) (pg : Nat → Option (List UInt8)) (hp : pgB pg M.see) (hlen : ∀ k, k < 4 → (loadP (pg k) k).2.length ≤ 1000) (w : World) (hM : MdAt w a M) (hg : Blk w g (stC a) 113) :
    Calls Try.prog 30 #[.pointer (some ⟨g, 0, none⟩)] w (AllPost pg w) := by
  have hq := nilEq55s g
  have HM := Lib.hid hM
  have Hg := Lib.hid hg
  have Hp := Lib.hid hp
  have Hlen := Lib.hid hlen
  clear hM hg hp hlen
  go_enter Try.func30, Try.ntmps30
  go_wp2
  go_loopw [4, 10] (fun v c wr => KallRel pg w v c wr) (fun _ c _ => 4 - (intOf c).toNat)
  case atStart => exact ⟨0, by omega, rfl, fun k h => by omega, Kd.R_nil _ _ _ _ _, Below.refl _ _⟩
  case round =>
    obtain ⟨i, hi, rfl, hz, hR, hB⟩ := hrel
    have hln := flatP_len Hlen.out i hi
    obtain ⟨D, hD⟩ : ∃ D, D = flatP pg i := ⟨_, rfl⟩
    rw [← hD] at hR hln
    have HD := Lib.hid hD
    clear hD
    obtain ⟨A, c, rfl⟩ := Kd.R_slice hR
    have HR := Lib.hid hR
    have HB := Lib.hid hB
    have Hz := Lib.hid hz
    clear hR hB hz
    by_cases hlt : i < 4
    · have hld := load_any M a g pg Hp.out i hlt wr (HM.out.below HB.out) (Hg.out.below HB.out)
      have Hld := Lib.hid hld
      clear hld
      go_wp2_with fail
      refine Hld.out.mono ?_
      rintro e w3 ⟨⟨v', rfl, h1, h2⟩, hb3⟩
      clear Hld
      have H1 := Lib.hid h1
      clear h1 h2
      have HB3 := Lib.hid (HB.out.trans (hb3.mono HB.out.size))
      have HR3 := Lib.hid (Kd.R_below HR.out hb3)
      clear hb3
      by_cases he : (loadP (pg i) i).1 = 0
      · have h1 := H1.out he
        have hl1 := Hlen.out i hlt
        have hfs := flatP_succ pg i
        obtain ⟨X, hX⟩ : ∃ X, X = (loadP (pg i) i).2 := ⟨_, rfl⟩
        rw [← hX] at h1 hl1 hfs
        obtain ⟨A3, c3, rfl, hl3, hC3⟩ := Kd.R_reads h1
        have HC3 := Lib.hid hC3
        have He := Lib.hid he
        have Hfs := Lib.hid hfs
        clear h1 H1 hC3 HR HB hX hfs
        rw [He.out]
        go_wp2_with (first
          | (at_builtin; (refine Kd.R_append_rows prK (Rr := prK.K w3) (w0 := w) w.heap.size rfl (.tmp 22) (.tmp 23) 58 63 _ 32 rfl Try.underlying58 info63 rfl (by decide) (by decide) (.slice A D.length c) D X A3 X.length c3 (fun _ => True) (fun _ => False) rfl rfl HR3.out HC3.out (fun _ _ h => prK_KM h) (fun _ hk => hk.elim) (fun _ _ => trivial) HB3.out HB3.out.size ?l1 ?_); (case l1 => omega); intro v1 w4 hR4 hB4 hg4 hat4; have HR4 := Lib.hid hR4; have HB4 := Lib.hid hB4; clear hR4 hB4 hg4 hat4))
        go_roundw
        case rel => exact ⟨i + 1, by omega, by go_num, fun k hk => by
          by_cases e : k = i
          · subst e; exact He.out
          · exact Hz.out k (by omega), by rw [Hfs.out, ← HD.out]; exact HR4.out, HB4.out⟩
        case measure => simp [intOf]; omega
      · have heb : ((loadP (pg i) i).1 != 0) = true := bne_iff_ne.2 he
        go_wp2
        go_ret2
        exact ⟨.inl ⟨i, hlt, Hz.out, he, rfl⟩, HB3.out⟩
    · obtain rfl : i = 4 := by omega
      have hs := sort_any wr w.heap.size (.slice A D.length c) D HR.out (by omega)
      have Hs := Lib.hid hs
      clear hs
      go_wp2_with fail
      refine Hs.out.mono ?_
      rintro e w5 ⟨rfl, hm, L, hp, hso, hC⟩
      have hLl : L.length = D.length := hp.length_eq
      have HC := Lib.hid (hC A c rfl)
      have Hp2 := Lib.hid hp
      have Hso := Lib.hid hso
      have HB5 := Lib.hid (HB.out.trans (hm.below HB.out.size (fun q hq he => by have := (R_base HR.out he).1; omega)))
      clear hm hp hso hC
      go_wp2
      go_ret2
      refine ⟨.inr ⟨Hz.out, L, A, c, by rw [← HD.out]; exact Hp2.out, Hso.out, by rw [hLl]; rfl, HC.out⟩, HB5.out⟩
end Go.Proofs.Yteilmbhnbmmcjaa.B
