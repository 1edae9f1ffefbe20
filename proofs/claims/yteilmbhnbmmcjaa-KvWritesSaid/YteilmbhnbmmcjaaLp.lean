/- Helper: notes on pages, plainly: pages of so many bytes, the newest ones. No condition. -/
namespace Go.Proofs.Yteilmbhnbmmcjaa.B
/-- Notes by pages: those that are full (the newest first), and the open one. -/
structure Bk (α : Type) where
  done : List (List α)
  cur : List α
section
variable {α : Type} (sz : α → Nat)
def szL (l : List α) : Nat := (l.map sz).sum
theorem szL_nil : szL sz [] = 0 := rfl
theorem szL_snoc (l : List α) (x : α) : szL sz (l ++ [x]) = szL sz l + sz x := by simp [szL]
def Bk.add (b : Bk α) (x : α) : Bk α := if szL sz b.cur + sz x ≤ 64 then ⟨b.done, b.cur ++ [x]⟩ else ⟨b.cur :: b.done, [x]⟩
def bk (l : List α) : Bk α := l.foldl (Bk.add sz) ⟨[], []⟩
def Bk.no (b : Bk α) : Nat := b.done.length + 1
def Bk.kept (b : Bk α) (m : Nat) : List α := ((b.cur :: b.done).take m).reverse.flatten
def Bk.page (b : Bk α) : Nat := (b.no + 5) % 6 + 1
theorem bk_nil : bk sz ([] : List α) = ⟨[], []⟩ := rfl
theorem bk_snoc (l : List α) (x : α) : bk sz (l ++ [x]) = (bk sz l).add sz x := by simp [bk, List.foldl_append]
theorem bk_take (l : List α) (i : Nat) (h : i < l.length) : bk sz (l.take (i + 1)) = (bk sz (l.take i)).add sz l[i] := by
  rw [List.take_succ_eq_append_getElem h, bk_snoc]
theorem snoc_ind {P : List α → Prop} (h0 : P []) (h1 : ∀ l x, P l → P (l ++ [x])) (l : List α) : P l := by
  rw [← List.reverse_reverse l]
  induction l.reverse with
  | nil => exact h0
  | cons x t ih => rw [List.reverse_cons]; exact h1 _ _ ih
theorem bk_all (l : List α) : ((bk sz l).cur :: (bk sz l).done).reverse.flatten = l := by
  refine snoc_ind (P := fun l => ((bk sz l).cur :: (bk sz l).done).reverse.flatten = l) rfl (fun l x ih => ?_) l
  rw [bk_snoc]
  unfold Bk.add
  split
  · simp at ih ⊢
    rw [← List.append_assoc, ih]
  · simp at ih ⊢
    rw [← List.append_assoc, ih]
theorem bk_le (l : List α) (h : ∀ x ∈ l, sz x ≤ 64) : szL sz (bk sz l).cur ≤ 64 := by
  revert h
  refine snoc_ind (P := fun l => (∀ x ∈ l, sz x ≤ 64) → szL sz (bk sz l).cur ≤ 64) (fun _ => by simp [bk, szL]) (fun l x ih h => ?_) l
  rw [bk_snoc]
  unfold Bk.add
  split
  · rw [szL_snoc]; assumption
  · have := h x (by simp)
    simp [szL]; exact this
theorem bk_mem (l : List α) (x : α) (h : x ∈ (bk sz l).cur) : x ∈ l := by
  have := bk_all sz l
  rw [← this]
  simp [h]
theorem bk_mem' (l : List α) (c : List α) (hc : c ∈ (bk sz l).done) (x : α) (h : x ∈ c) : x ∈ l := by
  have := bk_all sz l
  rw [← this]
  simp
  exact Or.inl ⟨c, hc, h⟩
theorem bk_done_le (l : List α) (h : ∀ x ∈ l, sz x ≤ 64) : ∀ c ∈ (bk sz l).done, szL sz c ≤ 64 := by
  revert h
  refine snoc_ind (P := fun l => (∀ x ∈ l, sz x ≤ 64) → ∀ c ∈ (bk sz l).done, szL sz c ≤ 64) (fun _ c hc => by simp [bk] at hc) (fun l x ih h => ?_) l
  have ih := ih (fun y hy => h y (by simp [hy]))
  have hl := bk_le sz l (fun y hy => h y (by simp [hy]))
  rw [bk_snoc]
  unfold Bk.add
  split
  · exact ih
  · intro c hc
    rcases List.mem_cons.1 hc with rfl | hc
    · exact hl
    · exact ih c hc
theorem bk_no_pos (b : Bk α) : 1 ≤ b.no := by simp [Bk.no]
theorem bk_add_cur (b : Bk α) (x : α) : (b.add sz x).cur ≠ [] := by
  unfold Bk.add
  split <;> simp
theorem bk_no_le (l : List α) : (bk sz l).no ≤ l.length + 1 := by
  refine snoc_ind (P := fun l => (bk sz l).no ≤ l.length + 1) (by simp [bk, Bk.no]) (fun l x ih => ?_) l
  rw [bk_snoc]
  unfold Bk.add Bk.no at *
  split <;> simp at ih ⊢ <;> omega
/-- On which page each note is. -/
def ats (l : List α) : List Nat := (List.range l.length).map fun i => (bk sz (l.take (i + 1))).no
theorem ats_len (l : List α) : (ats sz l).length = l.length := by simp [ats]
theorem ats_snoc (l : List α) (x : α) : ats sz (l ++ [x]) = ats sz l ++ [(bk sz (l ++ [x])).no] := by
  unfold ats
  rw [List.length_append, List.length_singleton, List.range_succ, List.map_append]
  congr 1
  · apply List.map_congr_left
    intro i hi
    have hi' : i < l.length := by simpa using hi
    have : i + 1 ≤ l.length := hi'
    rw [List.take_append_of_le_length this]
  · simp
    rw [show List.take (l.length + 1) (l ++ [x]) = l ++ [x] from List.take_of_length_le (by simp)]
theorem ats_take (l : List α) (i : Nat) (h : i ≤ l.length) : ats sz (l.take i) = (ats sz l).take i := by
  unfold ats
  rw [List.length_take, Nat.min_eq_left h, ← List.map_take, List.take_range, Nat.min_eq_left h]
  apply List.map_congr_left
  intro j hj
  have : j < i := by simpa using hj
  rw [List.take_take, Nat.min_eq_left (by omega)]
theorem ats_at (l : List α) (i : Nat) (h : i < l.length) : (ats sz l)[i]'(by rw [ats_len]; exact h) = (bk sz (l.take (i + 1))).no := by simp [ats]
/-- Those that are on one of the last pages. -/
def keptF (l : List α) (no m : Nat) : List α := ((l.zip (ats sz l)).filter fun p => decide (no < p.2 + m)).map (·.1)
theorem ats_le (l : List α) : ∀ a ∈ ats sz l, a ≤ (bk sz l).no := by
  refine snoc_ind (P := fun l => ∀ a ∈ ats sz l, a ≤ (bk sz l).no) (fun a h => by simp [ats] at h) (fun l x ih a h => ?_) l
  rw [ats_snoc] at h
  rcases List.mem_append.1 h with h | h
  · have := ih a h
    rw [bk_snoc]
    unfold Bk.add Bk.no at *
    split <;> simp <;> omega
  · simp at h; omega
theorem keptF_snoc (l : List α) (x : α) (no m : Nat) : keptF sz (l ++ [x]) no m = keptF sz l no m ++ if no < (bk sz (l ++ [x])).no + m then [x] else [] := by
  unfold keptF
  rw [ats_snoc, List.zip_append (by rw [ats_len])]
  rw [List.filter_append, List.map_append]
  congr 1
  simp [List.filter_cons]
  split <;> rfl
theorem kept_keptF (l : List α) : ∀ m, keptF sz l (bk sz l).no m = (bk sz l).kept m := by
  refine snoc_ind (P := fun l => ∀ m, keptF sz l (bk sz l).no m = (bk sz l).kept m) (fun m => ?_) (fun l x ih m => ?_) l
  · cases m <;> simp [keptF, bk, Bk.kept, ats]
  · rw [keptF_snoc]
    by_cases hm : m = 0
    · subst hm
      rw [if_neg (by omega)]
      simp [Bk.kept]
      unfold keptF
      simp
      intro a b hab
      have h := (List.of_mem_zip hab).2
      have := ats_le sz l b h
      rw [bk_snoc]
      unfold Bk.add Bk.no at *
      split <;> simp <;> omega
    · rw [if_pos (by omega)]
      obtain ⟨k, rfl⟩ : ∃ k, m = k + 1 := ⟨m - 1, by omega⟩
      rw [bk_snoc]
      unfold Bk.add
      split
      · have := ih (k + 1)
        rw [show (Bk.no { done := (bk sz l).done, cur := (bk sz l).cur ++ [x] }) = (bk sz l).no from rfl, this]
        simp [Bk.kept]
      · have := ih k
        rw [show (Bk.no { done := (bk sz l).cur :: (bk sz l).done, cur := [x] }) = (bk sz l).no + 1 from rfl]
        rw [show keptF sz l ((bk sz l).no + 1) (k + 1) = keptF sz l (bk sz l).no k by
          unfold keptF
          congr 1
          apply List.filter_congr
          intro p _
          congr 1
          simp only [eq_iff_iff]
          omega, this]
        simp [Bk.kept]
theorem kept_drop (l : List α) (m : Nat) : ∃ k, k ≤ l.length ∧ (bk sz l).kept m = l.drop k := by
  have h := bk_all sz l
  obtain ⟨L, hL⟩ : ∃ L, L = (bk sz l).cur :: (bk sz l).done := ⟨_, rfl⟩
  unfold Bk.kept
  rw [← hL] at h ⊢
  have e : L.reverse.flatten = (L.drop m).reverse.flatten ++ (L.take m).reverse.flatten := by
    rw [← List.flatten_append, ← List.reverse_append, List.take_append_drop]
  refine ⟨(L.drop m).reverse.flatten.length, ?_, ?_⟩
  · rw [← h, e]; simp
  · rw [e] at h
    rw [← h, List.drop_left]
/-- What stands on a page. -/
def pgOf (ct : List α → ByteArray) : Option (List α) → Option ByteArray
  | none => none
  | some [] => none
  | some (x :: l) => some (ct (x :: l))
theorem pgOf_ne (ct : List α → ByteArray) (l : List α) (h : l ≠ []) : pgOf ct (some l) = some (ct l) := by
  cases l with
  | nil => exact absurd rfl h
  | cons x l => rfl
def upF (pg : Int → Option ByteArray) (p : Int) (v : Option ByteArray) : Int → Option ByteArray := fun i => if i = p then v else pg i
/-- The pages hold what was noted. -/
def PgOk (ct : List α → ByteArray) (pg : Int → Option ByteArray) (b : Bk α) (h : ByteArray) : Prop :=
  pg 0 = some h ∧ (∀ k : Nat, k < 6 → pg (((b.no + 5 - k) % 6 + 1 : Nat) : Int) = pgOf ct ((b.cur :: b.done)[k]?))
theorem PgOk.nil (ct : List α → ByteArray) (h : ByteArray) (pg : Int → Option ByteArray) (h0 : pg 0 = some h) (h1 : ∀ p : Int, p ≠ 0 → pg p = none) : PgOk ct pg ⟨[], []⟩ h := by
  refine ⟨h0, fun k hk => ?_⟩
  rw [h1 _ (by omega)]
  cases k with
  | zero => rfl
  | succ k => simp [pgOf]
theorem PgOk.add (ct : List α → ByteArray) {pg : Int → Option ByteArray} {b : Bk α} {h h' : ByteArray} (H : PgOk ct pg b h) (x : α) :
    PgOk ct (upF (upF pg ((b.add sz x).page : Int) (some (ct (b.add sz x).cur))) 0 (some h')) (b.add sz x) h' := by
  have hne := bk_add_cur sz b x
  have hp := bk_no_pos b
  refine ⟨by simp [upF], fun k hk => ?_⟩
  have hu : ∀ (q : Nat) (v), upF (upF pg ((b.add sz x).page : Int) v) 0 (some h') ((q + 1 : Nat) : Int) = if q + 1 = (b.add sz x).page then v else pg ((q + 1 : Nat) : Int) := by
    intro q v
    unfold upF
    rw [if_neg (by omega)]
    by_cases e : q + 1 = (b.add sz x).page
    · rw [if_pos e, if_pos (by omega)]
    · rw [if_neg e, if_neg (by omega)]
  rw [hu]
  cases k with
  | zero =>
    rw [if_pos (by simp [Bk.page])]
    simp
    rw [pgOf_ne ct _ hne]
  | succ k =>
    have h2 := H.2
    unfold Bk.page
    unfold Bk.add at *
    split
    · have := h2 (k + 1) hk
      unfold Bk.no at *
      rw [if_neg (by simp; omega)]
      simp at this ⊢
      exact this
    · have := h2 k (by omega)
      unfold Bk.no at *
      rw [if_neg (by simp; omega)]
      simp at this ⊢
      rw [show b.done.length + 6 - k = b.done.length + 1 + 5 - k by omega]
      exact this
end
end Go.Proofs.Yteilmbhnbmmcjaa.B
