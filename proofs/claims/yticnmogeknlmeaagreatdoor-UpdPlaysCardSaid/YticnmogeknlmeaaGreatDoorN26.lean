/- Helper: two slots, plainly: as a tree; what the updater's changes make of it. what each of the updater's changes makes of two slots, plainly. what is kept of slots read and written by the updater; switched, confirmed; walked. rows of changes out of their cells; changes made; what is kept is written; walked. the updater switches and confirms; walked. No condition. -/
import Derived.Test.YticnmogeknlmeaaGreatDoorN25
import Derived.Test.YticnmogeknlmeaaGreatDoorN14
namespace Go.Proofs.YticnmogeknlmeaaGreatDoor.B
open Go.RowKit Go.Maps
def pageOf (img : List UInt8) (j : Nat) : List UInt8 := (img.drop (64 * j)).take 64
def pgsTo (img : List UInt8) (n : Nat) : Int → Option ByteArray := fun p => if 0 ≤ p ∧ p.toNat < n then some (bs (pageOf img p.toNat)) else none
def nP (img : List UInt8) : Nat := (img.length + 63) / 64
def spS (pg : Nat) (img : List UInt8) : Sp := ⟨pg, false, pgsTo img (nP img)⟩
theorem pgsTo_zero (img : List UInt8) : pgsTo img 0 = noPages := by
  funext p
  simp [pgsTo, noPages]
theorem pgsTo_succ (img : List UInt8) (n : Nat) : upP (pgsTo img n) (n : Int) (some (bs (pageOf img n))) = pgsTo img (n + 1) := by
  funext p
  unfold upP pgsTo
  by_cases h : p = (n : Int)
  · subst h
    rw [if_pos rfl, if_pos ⟨by omega, by omega⟩]
    rfl
  · rw [if_neg h]
    by_cases h2 : 0 ≤ p ∧ p.toNat < n
    · rw [if_pos h2, if_pos ⟨h2.1, by omega⟩]
    · rw [if_neg h2, if_neg (by omega)]
theorem pageOf_app {img s : List UInt8} {k j : Nat} (h : img.length = 64 * k) (hj : j < k) : pageOf (img ++ s) j = pageOf img j := by
  unfold pageOf
  rw [List.drop_append_of_le_length (by omega), List.take_append_of_le_length (by rw [List.length_drop]; omega)]
theorem pgsTo_app {img s : List UInt8} {k : Nat} (h : img.length = 64 * k) : pgsTo img k = pgsTo (img ++ s) k := by
  funext p
  unfold pgsTo
  by_cases h2 : 0 ≤ p ∧ p.toNat < k
  · rw [if_pos h2, if_pos h2, pageOf_app h h2.2]
  · rw [if_neg h2, if_neg h2]
theorem pageOf_len (img : List UInt8) (j : Nat) : (pageOf img j).length ≤ 64 := by unfold pageOf; rw [List.length_take]; omega
/-- The changes by which pages say what an image has. -/
def rowsP (id : Int) (img : List UInt8) (lo n : Nat) : List Ch := (List.range' lo n).map fun (j : Nat) => putCh id (j : Int) (pageOf img j)
theorem rowsP_len (id : Int) (img : List UInt8) (lo n : Nat) : (rowsP id img lo n).length = n := by simp [rowsP]
theorem rowsP_succ (id : Int) (img : List UInt8) (lo n : Nat) : rowsP id img lo (n + 1) = putCh id (lo : Int) (pageOf img lo) :: rowsP id img (lo + 1) n := by simp [rowsP, List.range'_succ]
theorem rowsP_snoc (id : Int) (img : List UInt8) (lo n : Nat) : rowsP id img lo (n + 1) = rowsP id img lo n ++ [putCh id ((lo + n : Nat) : Int) (pageOf img (lo + n))] := by simp [rowsP, List.range'_concat]
theorem upT_twice (T : Tree) (k : Int) (u v : Option Sp) : upT (upT T k u) k v = upT T k v := by
  funext i
  unfold upT
  split <;> rfl
theorem upT_same_eq {T : Tree} {k : Int} {sp : Sp} (h : T k = some sp) : upT T k (some sp) = T := by
  funext i
  unfold upT
  split
  · subst_vars; exact h.symm
  · rfl
theorem rows_run {pg : Nat} {id : Int} {img : List UInt8} : ∀ (n lo : Nat) (M : Md) (T : Tree) (sp : Sp), Live pg M T → T id = some sp → sp.sl = false → sp.pages = pgsTo img lo → ((lo + n : Nat) : Int) ≤ sp.q → M.many + (n : Int) ≤ 8 →
    ∃ M1, Runs M (rowsP id img lo n) M1 ∧ Live pg M1 (upT T id (some { sp with pages := pgsTo img (lo + n) })) ∧ M1.many = M.many + n
  | 0, lo, M, T, sp, h, hid, hs, hp, hq, hm => by
    refine ⟨M, Runs.nil M, ?_, by omega⟩
    rw [show ({ sp with pages := pgsTo img (lo + 0) } : Sp) = sp by rw [Nat.add_zero, ← hp], upT_same_eq hid]
    exact h
  | n + 1, lo, M, T, sp, h, hid, hs, hp, hq, hm => by
    have e : sp.put (lo : Int) (pageOf img lo) = { sp with pages := pgsTo img (lo + 1) } := by
      unfold Sp.put
      rw [hp, pgsTo_succ]
    have h1 := Runs.put h (by omega) hid hs (p := (lo : Int)) (by omega) (pageOf_len img lo) (Runs.nil _)
    obtain ⟨r1, l1⟩ := h1
    rw [e] at r1 l1
    obtain ⟨M1, r2, l2, e2⟩ := rows_run n (lo + 1) _ _ { sp with pages := pgsTo img (lo + 1) } l1 (upT_same _ _ _) hs rfl (by show ((lo + 1 + n : Nat) : Int) ≤ sp.q; omega) (by show M.many + 1 + (n : Int) ≤ 8; omega)
    refine ⟨M1, ?_, ?_, ?_⟩
    · rw [rowsP_succ]
      exact r1.append r2
    · rw [upT_twice, show lo + 1 + n = lo + (n + 1) by omega] at l2
      exact l2
    · rw [e2]
      show M.many + 1 + (n : Int) = M.many + ((n + 1 : Nat) : Int)
      omega
/-- What there is: what is kept of two slots, their manifests and images, what is being installed. -/
structure US where
  pg : Nat
  b : Bt
  m : Bool → Option Man
  im : Bool → List UInt8
  pn : Option (Man × Nat)
def bootPg (x : US) : Int → Option ByteArray := fun p =>
  if p = 0 then some (bs x.b.B) else if p = 1 then (x.m false).map fun m => bs (manB m) else if p = 2 then (x.m true).map fun m => bs (manB m) else if p = 3 then x.pn.map fun y => bs (manB y.1 ++ numL y.2) else none
def spB (x : US) : Sp := ⟨4, false, bootPg x⟩
def US.tree (x : US) : Tree := fun k => if k = 1 then some (spS x.pg (x.im false)) else if k = 2 then some (spS x.pg (x.im true)) else if k = 3 then some (spB x) else none
structure US.Ok (x : US) : Prop where
  pg0 : 1 ≤ x.pg
  pg1 : x.pg ≤ 1024
  b : x.b.Ok
  im : ∀ s, (x.im s).length ≤ 64 * x.pg
  m : ∀ s m, x.m s = some m → m.Ok
  pn : ∀ m g, x.pn = some (m, g) → m.Ok ∧ g ≤ 1048576
theorem nP_le {img : List UInt8} {pg : Nat} (h : img.length ≤ 64 * pg) : nP img ≤ pg := by unfold nP; omega
theorem bN_le (b : Bool) : bN b ≤ 1 := by cases b <;> decide
theorem numL_small {n : Nat} (h : n < 256) : (numL n).length ≤ 2 := by
  have := leL_len 1 n (by omega)
  simp only [numL, List.length_cons]
  omega
theorem numL_mid {n : Nat} (h : n < 4294967296) : (numL n).length ≤ 5 := by
  have := leL_len 4 n (by omega)
  simp only [numL, List.length_cons]
  omega
theorem Bt.B_len {b : Bt} (h : b.Ok) : b.B.length ≤ 64 := by
  obtain ⟨n7, l1, lM, a0, aM, oM, t0, t1⟩ := h
  obtain ⟨ac, tr, gd, n, ls, va, vo⟩ := b
  dsimp only at *
  have h0 := numL_small (n := 0) (by omega)
  have h1 := numL_small (n := 1) (by omega)
  have h2 := numL_small (n := bN tr) (by have := bN_le tr; omega)
  have h3 := numL_small (n := n) (by omega)
  have h4 := numL_mid (n := ls) (by omega)
  have h5 := numL_mid (n := va) (by omega)
  have h6 := numL_mid (n := vo) (by omega)
  have h7 := numL_small (n := bN gd) (by have := bN_le gd; omega)
  cases ac
  · show (numsL [0, bN tr, n, ls, va, 1, vo, bN gd]).length ≤ 64
    simp only [numsL, List.flatMap_cons, List.flatMap_nil, List.length_append, List.length_nil]
    omega
  · show (numsL [1, bN tr, n, ls, vo, bN gd, va, 1]).length ≤ 64
    simp only [numsL, List.flatMap_cons, List.flatMap_nil, List.length_append, List.length_nil]
    omega
theorem manB_len2 {m : Man} (h : m.Ok) : (manB m).length ≤ 42 := by
  obtain ⟨h1, h2, h3, h4⟩ := h
  have := numL_mid (n := m.v) (by omega)
  have := numL_mid (n := m.n) (by omega)
  simp only [manB, List.length_append]
  omega
theorem prog_len {m : Man} {g : Nat} (h : m.Ok) (hg : g ≤ 1048576) : (manB m ++ numL g).length ≤ 64 := by
  have := manB_len2 h
  have := numL_mid (n := g) (by omega)
  rw [List.length_append]
  omega
theorem bootPg_in (x : US) : ∀ p s, bootPg x p = some s → 0 ≤ p ∧ p < 4 := by
  intro p s h
  unfold bootPg at h
  by_cases h0 : p = 0
  · omega
  · rw [if_neg h0] at h
    by_cases h1 : p = 1
    · omega
    · rw [if_neg h1] at h
      by_cases h2 : p = 2
      · omega
      · rw [if_neg h2] at h
        by_cases h3 : p = 3
        · omega
        · rw [if_neg h3] at h; cases h
theorem US.Ok.tri {x : US} (h : x.Ok) : Tri x.pg x.tree := by
  have hpg := h.pg1
  refine ⟨fun k a b c => by simp [US.tree, a, b, c], fun k sp hk => ?_, ?_, ?_, ?_⟩
  · have hS : ∀ img, img.length ≤ 64 * x.pg → ∀ p s, (spS x.pg img).pages p = some s → 0 ≤ p ∧ p < (x.pg : Int) := fun img hi p s e => by
      have e' : pgsTo img (nP img) p = some s := e
      unfold pgsTo at e'
      by_cases h2 : 0 ≤ p ∧ p.toNat < nP img
      · have := nP_le hi; omega
      · rw [if_neg h2] at e'; cases e'
    unfold US.tree at hk
    by_cases h1 : k = 1
    · subst h1
      rw [if_pos rfl] at hk
      obtain rfl := Option.some.inj hk
      exact ⟨by decide, by decide, by show (0 : Int) ≤ x.pg; omega, by show (x.pg : Int) ≤ 1024; omega, hS _ (h.im _)⟩
    · rw [if_neg h1] at hk
      by_cases h2 : k = 2
      · subst h2
        rw [if_pos rfl] at hk
        obtain rfl := Option.some.inj hk
        exact ⟨by decide, by decide, by show (0 : Int) ≤ x.pg; omega, by show (x.pg : Int) ≤ 1024; omega, hS _ (h.im _)⟩
      · rw [if_neg h2] at hk
        by_cases h3 : k = 3
        · subst h3
          rw [if_pos rfl] at hk
          obtain rfl := Option.some.inj hk
          exact ⟨by decide, by decide, by show (0 : Int) ≤ 4; decide, by show (4 : Int) ≤ 1024; decide, bootPg_in x⟩
        · rw [if_neg h3] at hk; cases hk
  · show (x.pg : Int).toNat ≤ x.pg; omega
  · show (x.pg : Int).toNat ≤ x.pg; omega
  · exact Nat.le_refl 4
/-- A plain device that has two slots. -/
structure UsM (M : Md) (x : US) : Prop where
  now : M.now = x.tree
  opn : M.opn = none
  pl : 2 * (x.pg : Int) + 4 ≤ M.pl
  ks : 2 * (x.pg : Int) + 4 ≤ M.ks
  size : M.size = 64
def Md.begun (M : Md) : Md := { M with opn := some M.now, many := 0 }
theorem UsM.live {M : Md} {x : US} (h : UsM M x) (hx : x.Ok) : Live x.pg M.begun x.tree := ⟨congrArg some h.now, hx.tri, Int.le_refl 0, h.pl, h.ks, h.size, hx.pg1⟩
theorem allM_ok {M M1 : Md} {T : Tree} {l : List Ch} (h : Runs M.begun l M1) (ho : M1.opn = some T) : allM M l = (0, { M1 with now := T, opn := none }) := by
  have e : runM { M with opn := some M.now, many := 0 } l = (0, M1) := h.2
  unfold allM
  rw [e]
  simp only [if_true, mEnd, ho]
theorem UsM.all {M M1 : Md} {x x' : US} {l : List Ch} (hpg : x'.pg = x.pg) (h : Runs M.begun l M1) (hl : Live x.pg M1 x'.tree) : (allM M l).1 = 0 ∧ UsM (allM M l).2 x' ∧ RunOk M.begun l := by
  rw [allM_ok h hl.opn]
  exact ⟨rfl, ⟨rfl, rfl, by rw [hpg]; exact hl.pl, by rw [hpg]; exact hl.ks, hl.size⟩, h.1⟩
/-- The updater, and what it keeps, in memory. -/
def UsAt (w : World) (u a : Nat) (x : US) : Prop := ∃ M, UpAt w u a x.pg 64 ∧ MdAt w a M ∧ UsM M x
end Go.Proofs.YticnmogeknlmeaaGreatDoor.B
namespace Go.Proofs.YticnmogeknlmeaaGreatDoor.B
open Go.RowKit Go.Maps
def setB {α : Type} (f : Bool → α) (s : Bool) (v : α) : Bool → α := fun t => if t = s then v else f t
theorem setB_same {α : Type} (f : Bool → α) (s : Bool) (v : α) : setB f s v s = v := if_pos rfl
theorem setB_other {α : Type} (f : Bool → α) {s t : Bool} (v : α) (h : t ≠ s) : setB f s v t = f t := if_neg h
def sid (s : Bool) : Int := if s then 2 else 1
theorem sid_in (s : Bool) : 1 ≤ sid s ∧ sid s ≤ 2 := by cases s <;> decide
/-- One step of changes, from slots to slots. -/
def Step (pg : Nat) (M : Md) (l : List Ch) (T' : Tree) (n : Int) : Prop := ∃ M1, Runs M l M1 ∧ Live pg M1 T' ∧ M1.many = M.many + n
theorem Step.trans {pg : Nat} {M : Md} {l1 l2 : List Ch} {T1 T2 : Tree} {n1 n2 : Int} (h : Step pg M l1 T1 n1) (k : ∀ M1, Live pg M1 T1 → M1.many = M.many + n1 → Step pg M1 l2 T2 n2) : Step pg M (l1 ++ l2) T2 (n1 + n2) := by
  obtain ⟨M1, r1, h1, e1⟩ := h
  obtain ⟨M2, r2, h2, e2⟩ := k M1 h1 e1
  exact ⟨M2, r1.append r2, h2, by omega⟩
theorem tree_boot {x x' : US} (hp : x'.pg = x.pg) (hi : x'.im = x.im) : upT x.tree 3 (some (spB x')) = x'.tree := by
  funext k
  unfold upT US.tree
  rw [hp, hi]
  by_cases h3 : k = 3
  · subst h3
    rw [if_pos rfl, if_neg (by decide), if_neg (by decide), if_pos rfl]
  · rw [if_neg h3, if_neg h3, if_neg h3]
theorem tree_slot {x x' : US} (s : Bool) (hp : x'.pg = x.pg) (hb : spB x' = spB x) (hi : x'.im (!s) = x.im (!s)) : upT x.tree (sid s) (some (spS x.pg (x'.im s))) = x'.tree := by
  funext k
  unfold upT US.tree
  rw [hp, hb]
  cases s
  · show (if k = 1 then _ else _) = _
    have hi : x'.im true = x.im true := hi
    rw [hi]
    by_cases h1 : k = 1
    · rw [if_pos h1, if_pos h1]
    · rw [if_neg h1, if_neg h1, if_neg h1]
  · show (if k = 2 then _ else _) = _
    have hi : x'.im false = x.im false := hi
    rw [hi]
    by_cases h2 : k = 2
    · subst h2
      rw [if_pos rfl, if_neg (by decide), if_pos rfl]
    · simp only [if_neg h2]
theorem Step.boot {pg : Nat} {M : Md} {x x' : US} (h : Live pg M x.tree) (h8 : M.many < 8) {p : Int} {s : List UInt8} (hp : 0 ≤ p ∧ p < 4) (hs : s.length ≤ 64) (hg : x'.pg = x.pg) (hi : x'.im = x.im) (e : ∀ q, bootPg x' q = if q = p then some (bs s) else bootPg x q) : Step pg M [putCh 3 p s] x'.tree 1 := by
  obtain ⟨r, l⟩ := Runs.put h h8 (id := 3) (p := p) (x := s) (sp := spB x) rfl rfl hp hs (Runs.nil _)
  have e2 : (spB x).put p s = spB x' := by
    unfold Sp.put spB
    congr 1
    funext q
    rw [e q]
    rfl
  rw [e2, tree_boot hg hi] at r l
  exact ⟨_, r, l, rfl⟩
theorem step_b {pg : Nat} {M : Md} {x : US} (h : Live pg M x.tree) (h8 : M.many < 8) {b : Bt} (hb : b.Ok) : Step pg M [putCh 3 0 b.B] ({ x with b := b } : US).tree 1 :=
  Step.boot h h8 (by decide) (Bt.B_len hb) rfl rfl (fun q => by
    unfold bootPg
    by_cases h0 : q = 0
    · rw [if_pos h0, if_pos h0]
    · rw [if_neg h0, if_neg h0, if_neg h0])
theorem step_new {pg : Nat} {M : Md} {x : US} (h : Live pg M x.tree) (h8 : M.many < 8) {m : Man} {g : Nat} (hm : m.Ok) (hg : g ≤ 1048576) : Step pg M [putCh 3 3 (manB m ++ numL g)] ({ x with pn := some (m, g) } : US).tree 1 :=
  Step.boot h h8 (by decide) (prog_len hm hg) rfl rfl (fun q => by
    unfold bootPg
    by_cases h3 : q = 3
    · subst h3
      rw [if_neg (by decide), if_neg (by decide), if_neg (by decide), if_pos rfl, if_pos rfl]
      rfl
    · rw [if_neg h3, if_neg h3, if_neg h3])
theorem step_man {pg : Nat} {M : Md} {x : US} (h : Live pg M x.tree) (h8 : M.many < 8) {m : Man} (s : Bool) (hm : m.Ok) : Step pg M [putCh 3 (sid s) (manB m)] ({ x with m := setB x.m s (some m) } : US).tree 1 :=
  Step.boot h h8 (by have := sid_in s; omega) (by have := manB_len2 hm; omega) rfl rfl (fun q => by
    unfold bootPg
    cases s
    · show _ = if q = 1 then _ else _
      by_cases h1 : q = 1
      · subst h1
        rw [if_neg (by decide), if_pos rfl, if_pos rfl]
        rfl
      · rw [if_neg h1, if_neg h1, if_neg h1]
        rfl
    · show _ = if q = 2 then _ else _
      by_cases h2 : q = 2
      · subst h2
        rw [if_neg (by decide), if_neg (by decide), if_pos rfl, if_pos rfl]
        rfl
      · rw [if_neg h2, if_neg h2, if_neg h2]
        rfl)
theorem step_done {pg : Nat} {M : Md} {x : US} (h : Live pg M x.tree) (h8 : M.many < 8) (hp : x.pn.isSome = true) : Step pg M [trimCh 3 3] ({ x with pn := none } : US).tree 1 := by
  have hpg : ((spB x).pages 3).isSome = true := by
    show (bootPg x 3).isSome = true
    unfold bootPg
    rw [if_neg (by decide), if_neg (by decide), if_neg (by decide), if_pos rfl, Option.isSome_map]
    exact hp
  obtain ⟨r, l⟩ := Runs.trim h h8 (id := 3) (p := 3) (sp := spB x) rfl rfl hpg (Runs.nil _)
  have e2 : (spB x).trim 3 = spB { x with pn := none } := by
    unfold Sp.trim spB
    congr 1
    funext q
    show (if q = 3 then none else bootPg x q) = bootPg { x with pn := none } q
    unfold bootPg
    by_cases h3 : q = 3
    · subst h3
      rw [if_pos rfl, if_neg (by decide), if_neg (by decide), if_neg (by decide), if_pos rfl]
      rfl
    · rw [if_neg h3, if_neg h3, if_neg h3]
  rw [e2, tree_boot (x := x) (x' := { x with pn := none }) rfl rfl] at r l
  exact ⟨_, r, l, rfl⟩
theorem tree_sid (x : US) (s : Bool) : x.tree (sid s) = some (spS x.pg (x.im s)) := by cases s <;> rfl
theorem step_drop {pg : Nat} {M : Md} {x : US} (h : Live pg M x.tree) (h8 : M.many < 7) (s : Bool) (h1 : 1 ≤ x.pg) (h2 : x.pg ≤ pg) : Step pg M [dropCh (sid s), makeCh (sid s) x.pg] ({ x with im := setB x.im s [] } : US).tree 2 := by
  have hs := sid_in s
  obtain ⟨r, l⟩ := Runs.drop h (by omega) (tree_sid x s) (Runs.nil _)
  obtain ⟨r2, l2⟩ := Runs.make l (by show M.many + 1 < 8; omega) (id := sid s) (n := x.pg) (upT_same _ _ _) (by omega) ⟨h1, by have := h.pg1; omega⟩ (by rw [if_neg (by omega)]; exact h2) (Runs.nil _)
  have e : (⟨x.pg, false, noPages⟩ : Sp) = spS x.pg [] := by
    unfold spS
    rw [show nP [] = 0 from rfl, pgsTo_zero]
  rw [upT_twice, e, show ([] : List UInt8) = ({ x with im := setB x.im s [] } : US).im s from (setB_same _ _ _).symm, tree_slot (x := x) (x' := { x with im := setB x.im s [] }) s rfl rfl (setB_other _ _ (by cases s <;> decide))] at r2 l2
  exact ⟨_, r.append r2, l2, by show M.many + 1 + 1 = M.many + 2; omega⟩
theorem step_rows {pg : Nat} {M : Md} {x : US} (h : Live pg M x.tree) (s : Bool) {t : List UInt8} {k n : Nat} (hk : (x.im s).length = 64 * k) (hn : k + n = nP (x.im s ++ t)) (hl : (x.im s ++ t).length ≤ 64 * x.pg) (h8 : M.many + (n : Int) ≤ 8) : Step pg M (rowsP (sid s) (x.im s ++ t) k n) ({ x with im := setB x.im s (x.im s ++ t) } : US).tree n := by
  have hnp : nP (x.im s) = k := by unfold nP; omega
  have hp : (spS x.pg (x.im s)).pages = pgsTo (x.im s ++ t) k := by
    show pgsTo (x.im s) (nP (x.im s)) = _
    rw [hnp, pgsTo_app hk]
  have hq := nP_le hl
  obtain ⟨M1, r, l, e⟩ := rows_run n k M x.tree (spS x.pg (x.im s)) h (tree_sid x s) rfl hp (by show ((k + n : Nat) : Int) ≤ (x.pg : Int); omega) h8
  refine ⟨M1, r, ?_, e⟩
  rw [hn] at l
  have e2 : ({ spS x.pg (x.im s) with pages := pgsTo (x.im s ++ t) (nP (x.im s ++ t)) } : Sp) = spS x.pg (({ x with im := setB x.im s (x.im s ++ t) } : US).im s) := by
    show _ = spS x.pg (setB x.im s (x.im s ++ t) s)
    rw [setB_same]
    rfl
  rw [e2, tree_slot (x := x) (x' := { x with im := setB x.im s (x.im s ++ t) }) s rfl rfl (setB_other _ _ (by cases s <;> decide))] at l
  exact l
/-- Nothing but three spaces without pages; then the first one's pages. -/
def bare (pg : Nat) (img : List UInt8) (lo : Nat) : Tree := fun k => if k = 1 then some ⟨pg, false, pgsTo img lo⟩ else if k = 2 then some ⟨pg, false, noPages⟩ else if k = 3 then some ⟨4, false, noPages⟩ else none
theorem step_bare {pg : Nat} {M : Md} (h : Live pg M T0) (h8 : M.many < 5) (h1 : 1 ≤ pg) (img : List UInt8) : Step pg M [makeCh 1 pg, makeCh 2 pg, makeCh 3 4] (bare pg img 0) 3 := by
  have hp := h.pg1
  obtain ⟨r1, l1⟩ := Runs.make h (by omega) (id := 1) (n := pg) rfl (by decide) ⟨h1, hp⟩ (by rw [if_neg (by decide)]; exact Nat.le_refl _) (Runs.nil _)
  obtain ⟨r2, l2⟩ := Runs.make l1 (by show M.many + 1 < 8; omega) (id := 2) (n := pg) rfl (by decide) ⟨h1, hp⟩ (by rw [if_neg (by decide)]; exact Nat.le_refl _) (Runs.nil _)
  obtain ⟨r3, l3⟩ := Runs.make l2 (by show M.many + 1 + 1 < 8; omega) (id := 3) (n := 4) rfl (by decide) ⟨by decide, by decide⟩ (by rw [if_pos rfl]; exact Nat.le_refl _) (Runs.nil _)
  have e : upT (upT (upT T0 1 (some ⟨pg, false, noPages⟩)) 2 (some ⟨pg, false, noPages⟩)) 3 (some ⟨((4 : Nat) : Int), false, noPages⟩) = bare pg img 0 := by
    funext k
    unfold upT bare
    rw [pgsTo_zero]
    by_cases a : k = 3
    · subst a; rfl
    · rw [if_neg a]
      by_cases b : k = 2
      · subst b; rfl
      · rw [if_neg b, if_neg b, if_neg a]
        rfl
  rw [e] at r3 l3
  exact ⟨_, (r1.append r2).append r3, l3, by show M.many + 1 + 1 + 1 = M.many + 3; omega⟩
theorem step_pages {pg : Nat} {M : Md} {img : List UInt8} {lo n : Nat} (h : Live pg M (bare pg img lo)) (hn : lo + n ≤ pg) (h8 : M.many + (n : Int) ≤ 8) : Step pg M (rowsP 1 img lo n) (bare pg img (lo + n)) n := by
  obtain ⟨M1, r, l, e⟩ := rows_run n lo M _ ⟨pg, false, pgsTo img lo⟩ h (id := 1) (img := img) rfl rfl rfl (by show ((lo + n : Nat) : Int) ≤ (pg : Int); omega) h8
  refine ⟨M1, r, ?_, e⟩
  have e2 : upT (bare pg img lo) 1 (some ⟨pg, false, pgsTo img (lo + n)⟩) = bare pg img (lo + n) := by
    funext k
    unfold upT bare
    by_cases a : k = 1
    · subst a; rfl
    · rw [if_neg a, if_neg a, if_neg a]
  rw [← e2]
  exact l
def first (pg v : Nat) (m : Man) (img : List UInt8) : US := ⟨pg, ⟨false, false, false, 0, v, v, 0⟩, setB (fun _ => none) false (some m), setB (fun _ => []) false img, none⟩
theorem step_first {pg v : Nat} {M : Md} {img : List UInt8} {m : Man} (h : Live pg M (bare pg img (nP img))) (h8 : M.many < 7) (hm : m.Ok) (hb : (first pg v m img).b.Ok) : Step pg M [putCh 3 1 (manB m), putCh 3 0 (first pg v m img).b.B] (first pg v m img).tree 2 := by
  obtain ⟨r1, l1⟩ := Runs.put h (by omega) (id := 3) (p := 1) (x := manB m) (sp := ⟨4, false, noPages⟩) rfl rfl (by decide) (by have := manB_len2 hm; omega) (Runs.nil _)
  obtain ⟨r2, l2⟩ := Runs.put l1 (by show M.many + 1 < 8; omega) (id := 3) (p := 0) (x := (first pg v m img).b.B) (sp := (⟨4, false, noPages⟩ : Sp).put 1 (manB m)) (upT_same _ _ _) rfl (by show 0 ≤ (0 : Int) ∧ (0 : Int) < 4; decide) (Bt.B_len hb) (Runs.nil _)
  have e : upT (upT (bare pg img (nP img)) 3 (some ((⟨4, false, noPages⟩ : Sp).put 1 (manB m)))) 3 (some (((⟨4, false, noPages⟩ : Sp).put 1 (manB m)).put 0 (first pg v m img).b.B)) = (first pg v m img).tree := by
    have hsp : ((⟨4, false, noPages⟩ : Sp).put 1 (manB m)).put 0 (first pg v m img).b.B = spB (first pg v m img) := by
      unfold Sp.put spB
      congr 1
      funext q
      show (if q = 0 then _ else if q = 1 then _ else none) = bootPg (first pg v m img) q
      unfold bootPg
      by_cases a : q = 0
      · rw [if_pos a, if_pos a]
      · rw [if_neg a, if_neg a]
        by_cases b : q = 1
        · rw [if_pos b, if_pos b]; rfl
        · rw [if_neg b, if_neg b]
          by_cases c : q = 2
          · rw [if_pos c]; rfl
          · rw [if_neg c]
            by_cases d : q = 3
            · rw [if_pos d]; rfl
            · rw [if_neg d]
    rw [upT_twice, hsp]
    funext k
    unfold upT bare US.tree
    by_cases a : k = 3
    · subst a; rfl
    · rw [if_neg a]
      by_cases b : k = 1
      · rw [if_pos b, if_pos b]; rfl
      · rw [if_neg b, if_neg b]
        by_cases c : k = 2
        · rw [if_pos c, if_pos c]
          show some _ = some (spS pg [])
          unfold spS
          rw [show nP [] = 0 from rfl, pgsTo_zero]
        · rw [if_neg c, if_neg a, if_neg c, if_neg a]
  rw [e] at r2 l2
  exact ⟨_, r1.append r2, l2, by show M.many + 1 + 1 = M.many + 2; omega⟩
end Go.Proofs.YticnmogeknlmeaaGreatDoor.B
namespace Go.Proofs.YticnmogeknlmeaaGreatDoor.B
open Go.RowKit Go.Maps Go.Proofs.YticnmogeknlmeaaGreatDoorW.PrintWords Go.Proofs.YticnmogeknlmeaaGreatDoor.Later
set_option maxRecDepth 100000
set_option maxHeartbeats 1600000
theorem UsAt.below {w w' : World} {u a : Nat} {x : US} (h : UsAt w u a x) (hb : Below w.heap.size w w') : UsAt w' u a x := by
  obtain ⟨M, h1, h2, h3⟩ := h
  exact ⟨M, Blk.below h1 hb, h2.below hb, h3⟩
theorem UsAt.c0 {w : World} {u a : Nat} {x : US} (h : UsAt w u a x) : w.cell? ⟨u, 0, none⟩ = some (.iface 25 (.pointer (some ⟨a, 0, none⟩))) := by obtain ⟨M, h1, _⟩ := h; exact Blk.cell h1 0
theorem UsAt.c1 {w : World} {u a : Nat} {x : US} (h : UsAt w u a x) : w.cell? ⟨u, 1, none⟩ = some (.int .i64 (x.pg : Int)) := by obtain ⟨M, h1, _⟩ := h; exact Blk.cell h1 1
theorem UsAt.c2 {w : World} {u a : Nat} {x : US} (h : UsAt w u a x) : w.cell? ⟨u, 2, none⟩ = some (.int .i64 64) := by obtain ⟨M, h1, _⟩ := h; exact Blk.cell h1 2
theorem uget_any {w : World} {u a : Nat} {x : US} (h : UsAt w u a x) (id p : Int) (hid : I64 id) (hp : I64 p) : Calls Tryz.prog 133 #[.pointer (some ⟨a, 0, none⟩), .int .i64 id, .int .i64 p] w fun e w' => e = .returned (.tuple #[.string (gotS (page? x.tree id p)), .int .i64 (gotE (page? x.tree id p))]) ∧ Below w.heap.size w w' := by
  obtain ⟨M, h1, h2, h3⟩ := h
  have e : M.see = x.tree := by unfold Md.see; rw [h3.opn, h3.now]; rfl
  have := get_m M a w h2 id p hid hp
  rw [e] at this
  exact this
theorem uget_some {w : World} {u a : Nat} {x : US} (h : UsAt w u a x) {id p : Int} (hid : 0 ≤ id ∧ id ≤ 2000) (hp : 0 ≤ p ∧ p ≤ 2000) {s : ByteArray} (hs : page? x.tree id p = some s) : Calls Tryz.prog 133 #[.pointer (some ⟨a, 0, none⟩), .int .i64 id, .int .i64 p] w fun e w' => e = .returned (.tuple #[.string s, .int .i64 0]) ∧ Below w.heap.size w w' := by
  have := uget_any h id p (i64_small hid) (i64_small hp)
  rw [hs] at this
  exact this
theorem uget_none {w : World} {u a : Nat} {x : US} (h : UsAt w u a x) {id p : Int} (hid : 0 ≤ id ∧ id ≤ 2000) (hp : 0 ≤ p ∧ p ≤ 2000) (hs : page? x.tree id p = none) : Calls Tryz.prog 133 #[.pointer (some ⟨a, 0, none⟩), .int .i64 id, .int .i64 p] w fun e w' => e = .returned (.tuple #[.string ⟨#[]⟩, .int .i64 181]) ∧ Below w.heap.size w w' := by
  have := uget_any h id p (i64_small hid) (i64_small hp)
  rw [hs] at this
  exact this
theorem boot_x {w : World} {u a : Nat} {x : US} (h : UsAt w u a x) (s : ByteArray) (ac n ls v0 v1 : Int) (tr g0 g1 : Bool) (hs : page? x.tree 3 0 = some s) (HG : ∀ W, Calls Tryz.prog 51 #[.string s] W fun e w' => e = .returned (.tuple #[.agg #[.int .i64 ac, .bool tr, .int .i64 n, .int .i64 ls, .int .i64 v0, .int .i64 v1, .bool g0, .bool g1], .int .i64 0]) ∧ Below W.heap.size W w') : Calls Tryz.prog 23 #[.pointer (some ⟨u, 0, none⟩)] w fun e w' => e = .returned (.tuple #[.agg #[.int .i64 ac, .bool tr, .int .i64 n, .int .i64 ls, .int .i64 v0, .int .i64 v1, .bool g0, .bool g1], .int .i64 0]) ∧ Below w.heap.size w w' := by
  have c0 := h.c0
  have H := Lib.hid h
  have Hg := Lib.hid hs
  have HG := Lib.hid HG
  have q1 := methGet a
  clear h hs
  have hal : Below w.heap.size w (w.alloc (.cells #[.int .i64 0, .bool false, .int .i64 0, .int .i64 0, .int .i64 0, .int .i64 0, .bool false, .bool false] 32)) := (Below.refl _ _).alloc (Nat.le_refl _) _
  have K := Lib.hid (Blk.new w #[.int .i64 0, .bool false, .int .i64 0, .int .i64 0, .int .i64 0, .int .i64 0, .bool false, .bool false] 32)
  have HA := Lib.hid hal
  have c0a : (w.alloc (.cells #[.int .i64 0, .bool false, .int .i64 0, .int .i64 0, .int .i64 0, .int .i64 0, .bool false, .bool false] 32)).cell? ⟨u, 0, none⟩ = some (.iface 25 (.pointer (some ⟨a, 0, none⟩))) := (H.out.below hal).c0
  clear hal
  go_enter Tryz.func23, Tryz.ntmps23
  go_wp2_with fail
  refine (uget_some (H.out.below HA.out) (by decide) (by decide) Hg.out).mono ?_
  rintro e w1 ⟨rfl, hB⟩
  have hB1 := HA.out.trans (hB.mono (by simp))
  have K1 := Lib.hid (K.out.below hB)
  have HB := Lib.hid hB1
  clear hB hB1 c0 c0a
  go_wp2_with fail
  refine (HG.out _).mono ?_
  rintro e w2 ⟨rfl, hB⟩
  have hB2 := HB.out.trans (hB.mono HB.out.size)
  have K2 := Lib.hid (K1.out.below hB)
  have HB2 := Lib.hid hB2
  clear hB hB2
  obtain ⟨b0, b1, b2, b3, b4, b5, b6, b7⟩ := cells8 K2.out
  have fb := fun i => Blk.free K2.out i
  go_wp2_with fail
  refine bodyPost_ret (results_ct (p := 2) (u := 3) (ty := 32) (by kernel_rfl) _ _ w.heap.size 32 #[.int .i64 ac, .bool tr, .int .i64 n, .int .i64 ls, .int .i64 v0, .int .i64 v1, .bool g0, .bool g1] _ rfl (blk_put8 K2.out _ _ _ _ _ _ _ _) Tryz.underlying32 rfl (by kernel_rfl)) rfl ?_
  exact ⟨rfl, below_put8 HB2.out (Nat.le_refl _) _ _ _ _ _ _ _ _⟩
theorem boot_any {w : World} {u a : Nat} {x : US} (h : UsAt w u a x) (hx : x.b.Ok) : Calls Tryz.prog 23 #[.pointer (some ⟨u, 0, none⟩)] w fun e w' => e = .returned (.tuple #[.agg x.b.V, .int .i64 0]) ∧ Below w.heap.size w w' := by
  have hp : page? x.tree 3 0 = some (bs x.b.B) := rfl
  have hG := fun W => tget_any x.b hx W
  revert hp hG
  generalize x.b = b
  obtain ⟨ac, tr, gd, n, ls, va, vo⟩ := b
  intro hp hG
  cases ac
  · exact boot_x h _ 0 n ls va vo tr true gd hp hG
  · exact boot_x h _ 1 n ls vo va tr gd true hp hG
end Go.Proofs.YticnmogeknlmeaaGreatDoor.B
namespace Go.Proofs.YticnmogeknlmeaaGreatDoor.B
open Go.RowKit Go.Maps Go.Proofs.YticnmogeknlmeaaGreatDoorW.PrintWords Go.Proofs.YticnmogeknlmeaaGreatDoor.Later
set_option maxRecDepth 100000
set_option maxHeartbeats 1600000
def cellsC (l : List Ch) : List Value := l.flatMap Ch.cells
theorem cellsC_at : ∀ (l : List Ch) (j i : Nat) (c : Ch), l[j]? = some c → i < 7 → (cellsC l)[j * 7 + i]? = c.cells[i]?
  | [], j, i, c, h, _ => by simp at h
  | d :: l, 0, i, c, h, hi => by
    obtain rfl : d = c := by simpa using h
    rw [Nat.zero_mul, Nat.zero_add]
    show (d.cells ++ cellsC l)[i]? = _
    rw [List.getElem?_append_left (show i < d.cells.length from hi)]
  | d :: l, j + 1, i, c, h, hi => by
    have := cellsC_at l j i c (by simpa using h) hi
    show (d.cells ++ cellsC l)[(j + 1) * 7 + i]? = _
    rw [List.getElem?_append_right (by show 7 ≤ _; omega), show (j + 1) * 7 + i - d.cells.length = j * 7 + i by show (j + 1) * 7 + i - 7 = _; omega]
    exact this
theorem chK_mk (w : World) (c : Ch) : chK.K w c c.cells :=
  ⟨[.int .i64 c.r.k], _, rfl, rfl, [.int .i64 c.r.s], _, rfl, rfl, [.int .i64 c.r.p], _, rfl, rfl, [.int .i64 c.r.a], _, rfl, rfl, [.int .i64 c.r.t], _, rfl, rfl, [.int .i64 c.r.n], [.string (bs c.x)], rfl, rfl, rfl⟩
theorem chC_of {w : World} {g : Nat} {l : List Ch} (h : Blk w g (cellsC l).toArray 102) (hl : l.length < 1000) : Kd.C chK w (some ⟨g, 0, none⟩) l.length l := by
  refine ⟨rfl, by omega, fun _ => ⟨⟨g, 0, none⟩, rfl, fun j p hj => ⟨p.cells, rfl, chK_mk w p, fun i u hu => ?_⟩⟩⟩
  have hi : i < 7 := by
    rcases Nat.lt_or_ge i 7 with h | h
    · exact h
    · rw [List.getElem?_eq_none (show p.cells.length ≤ i from h)] at hu; cases hu
  rw [show chK.sz = 7 from rfl, add_plain, h.cell, List.getElem?_toArray, cellsC_at l j i p hj hi]
  exact hu
theorem put_c (id p : Int) (x : List UInt8) (w : World) : Calls Tryz.prog 41 #[.int .i64 id, .int .i64 p, .string (bs x)] w fun e w' => e = .returned (.agg #[.int .i64 1, .int .i64 id, .int .i64 p, .int .i64 0, .int .i64 0, .int .i64 0, .string (bs x)]) ∧ Below w.heap.size w w' := by
  go_enter Tryz.func41, Tryz.ntmps41
  go_wp2_with fail
  have hk := Blk.new w #[.int .i64 1, .int .i64 id, .int .i64 p, .int .i64 0, .int .i64 0, .int .i64 0, .string (bs x)] 102
  refine bodyPost_ret (results_cell_row (p := 6) (ty := 102) (by kernel_rfl) _ _ w.heap.size 102 #[.int .i64 1, .int .i64 id, .int .i64 p, .int .i64 0, .int .i64 0, .int .i64 0, .string (bs x)] (0, 0) _ rfl hk Tryz.underlying102 rfl (by kernel_rfl)) rfl ?_
  exact ⟨rfl, (Below.refl _ _).alloc (Nat.le_refl _) _⟩
theorem made_c (id n : Int) (w : World) : Calls Tryz.prog 40 #[.int .i64 id, .int .i64 n] w fun e w' => e = .returned (.agg #[.int .i64 4, .int .i64 id, .int .i64 0, .int .i64 0, .int .i64 0, .int .i64 n, .string (bs [])]) ∧ Below w.heap.size w w' := by
  go_enter Tryz.func40, Tryz.ntmps40
  go_wp2_with fail
  have hk := Blk.new w #[.int .i64 4, .int .i64 id, .int .i64 0, .int .i64 0, .int .i64 0, .int .i64 n, .string (bs [])] 102
  refine bodyPost_ret (results_cell_row (p := 4) (ty := 102) (by kernel_rfl) _ _ w.heap.size 102 #[.int .i64 4, .int .i64 id, .int .i64 0, .int .i64 0, .int .i64 0, .int .i64 n, .string (bs [])] (0, 0) _ rfl hk Tryz.underlying102 rfl (by kernel_rfl)) rfl ?_
  exact ⟨rfl, (Below.refl _ _).alloc (Nat.le_refl _) _⟩
/-- Changes at once, from slots to slots. -/
theorem all_us {w : World} {u a : Nat} {x x' : US} (h : UsAt w u a x) (hx : x.Ok) (hpg : x'.pg = x.pg) {l : List Ch} (hl : l.length < 1000) (hr : ∀ M : Md, Live x.pg M x.tree → M.many = 0 → ∃ n, Step x.pg M l x'.tree n) {g c : Nat} (hC : Kd.C chK w (some ⟨g, 0, none⟩) l.length l) (hg : g ≠ a) :
    Calls Tryz.prog 39 #[.pointer (some ⟨u, 0, none⟩), .slice (some ⟨g, 0, none⟩) l.length c] w fun e w' => e = .returned (.int .i64 0) ∧ UsAt w' u a x' ∧ Mut (only a) w w' := by
  obtain ⟨M, h1, h2, h3⟩ := h
  obtain ⟨n, M1, r, hlv, _⟩ := hr M.begun (h3.live hx) rfl
  obtain ⟨e0, hM, hR⟩ := UsM.all (x := x) (x' := x') hpg r hlv
  have hne := h1.ne h2
  refine (all_t M l hl a u x.pg 64 (some ⟨g, 0, none⟩) c w h2 h3.opn h1 hC (fun ad e => by cases e; exact hg) hR).mono ?_
  rintro e w' ⟨rfl, k1, k2⟩
  rw [e0]
  exact ⟨rfl, ⟨_, by rw [hpg]; exact Blk.kept h1 k2 hne, k1, hM⟩, k2⟩
theorem UsAt.al {w : World} {u a : Nat} {x : US} (h : UsAt w u a x) : a < w.heap.size := by
  obtain ⟨M, _, h2, _⟩ := h
  obtain ⟨np, oo, n, hb, _⟩ := h2
  exact hb.lt
theorem keep_x {w : World} {u a : Nat} {x : US} (h : UsAt w u a x) (hx : x.Ok) (b : Bt) (hb : b.Ok) (ac n ls v0 v1 : Int) (tr g0 g1 : Bool) (hV : b.V = #[.int .i64 ac, .bool tr, .int .i64 n, .int .i64 ls, .int .i64 v0, .int .i64 v1, .bool g0, .bool g1]) : Calls Tryz.prog 48 #[.pointer (some ⟨u, 0, none⟩), .agg #[.int .i64 ac, .bool tr, .int .i64 n, .int .i64 ls, .int .i64 v0, .int .i64 v1, .bool g0, .bool g1], .int .i64 0] w fun e w' => e = .returned (.int .i64 0) ∧ UsAt w' u a { x with b := b } ∧ Mut (only a) w w' := by
  have hP := fun W => tput_any b hb W
  rw [hV] at hP
  have HP := Lib.hid hP
  have H := Lib.hid h
  have HA := Lib.hid ((Below.refl w.heap.size w).alloc (Nat.le_refl _) (.cells #[.int .i64 ac, .bool tr, .int .i64 n, .int .i64 ls, .int .i64 v0, .int .i64 v1, .bool g0, .bool g1] 32))
  clear hP h hV
  go_enter Tryz.func48, Tryz.ntmps48
  go_wp2_with fail
  refine (HP.out _).mono ?_
  rintro e w1 ⟨rfl, hB⟩
  have HB1 := Lib.hid (HA.out.trans (hB.mono (by simp)))
  clear hB
  go_wp2_with fail
  refine (put_c 3 0 b.B _).mono ?_
  rintro e w2 ⟨rfl, hB⟩
  have HB2 := Lib.hid (HB1.out.trans (hB.mono HB1.out.size))
  clear hB
  go_wp2_with fail
  have hal := H.out.al
  have hC := chC_of (l := [putCh 3 0 b.B]) (Blk.new w2 (cellsC [putCh 3 0 b.B]).toArray 102) (by simp)
  have hB3 := HB2.out.alloc HB2.out.size (.cells (cellsC [putCh 3 0 b.B]).toArray 102)
  have hs2 := HB2.out.size
  refine (all_us (x' := { x with b := b }) (H.out.below hB3) hx rfl (l := [putCh 3 0 b.B]) (by simp) (fun M hl hm => ⟨1, step_b hl (by omega) hb⟩) hC (by omega)).mono ?_
  rintro e w4 ⟨rfl, hU, hm⟩
  have HU := Lib.hid hU
  have HM := Lib.hid ((Mut.of_below (S := only a) hB3).trans hm)
  clear hU hm hC hB3
  go_wp2_with fail
  go_ret
  exact ⟨rfl, HU.out, HM.out⟩
theorem keep_any {w : World} {u a : Nat} {x : US} (h : UsAt w u a x) (hx : x.Ok) (b : Bt) (hb : b.Ok) : Calls Tryz.prog 48 #[.pointer (some ⟨u, 0, none⟩), .agg b.V, .int .i64 0] w fun e w' => e = .returned (.int .i64 0) ∧ UsAt w' u a { x with b := b } ∧ Mut (only a) w w' := by
  have hV : b.V = b.V := rfl
  obtain ⟨ac, tr, gd, n, ls, va, vo⟩ := b
  cases ac
  · exact keep_x h hx _ hb 0 n ls va vo tr true gd rfl
  · exact keep_x h hx _ hb 1 n ls vo va tr gd true rfl
theorem keep_err (u : Nat) (ac n ls v0 v1 : Int) (tr g0 g1 : Bool) (e : Int) (he : e ≠ 0) (w : World) : Calls Tryz.prog 48 #[.pointer (some ⟨u, 0, none⟩), .agg #[.int .i64 ac, .bool tr, .int .i64 n, .int .i64 ls, .int .i64 v0, .int .i64 v1, .bool g0, .bool g1], .int .i64 e] w fun r w' => r = .returned (.int .i64 e) ∧ Below w.heap.size w w' := by
  have h1 : (e != 0) = true := bne_iff_ne.2 he
  go_enter Tryz.func48, Tryz.ntmps48
  go_wp2_with fail
  go_ret
  exact ⟨rfl, (Below.refl _ _).alloc (Nat.le_refl _) _⟩
end Go.Proofs.YticnmogeknlmeaaGreatDoor.B
namespace Go.Proofs.YticnmogeknlmeaaGreatDoor.B
open Go.RowKit Go.Maps Go.Proofs.YticnmogeknlmeaaGreatDoorW.PrintWords Go.Proofs.YticnmogeknlmeaaGreatDoor.Later
set_option maxRecDepth 100000
set_option maxHeartbeats 1600000
/-- What there is behind an act on what is kept. -/
def US.on (x : US) (r : BR) : US := match r with
  | .ok b => { x with b := b }
  | .error _ => x
theorem two8b {w w1 : World} {cs : Array Value} (hB : Below w.heap.size w w1) (w2 : World) (h2 : Below (w1.alloc (.cells cs 32)).heap.size (w1.alloc (.cells cs 32)) w2) : Below w.heap.size w w2 :=
  (hB.alloc hB.size _).trans (h2.mono (by have := hB.size; simp; omega))
theorem not_ok0 {b : Bt} {e : Int} (_h : b.Ok) : (∀ v, b.inst v = .error e → e ≠ 0) ∧ (b.ready = .error e → e ≠ 0) ∧ (∀ t, b.switch t = .error e → e ≠ 0) ∧ (b.confirm = .error e → e ≠ 0) := by
  refine ⟨fun v k => ?_, fun k => ?_, fun t k => ?_, fun k => ?_⟩
  · unfold Bt.inst at k; repeat' split at k
    all_goals (cases k; try decide)
  · unfold Bt.ready at k; repeat' split at k
    all_goals (cases k; try decide)
  · unfold Bt.switch at k; repeat' split at k
    all_goals (cases k; try decide)
  · unfold Bt.confirm at k; repeat' split at k
    all_goals (cases k; try decide)
theorem uswitch_x {w : World} {u a : Nat} {x : US} (h : UsAt w u a x) (hx : x.Ok) (t : Int) (ac n ls v0 v1 : Int) (tr g0 g1 : Bool) (hV : x.b.V = #[.int .i64 ac, .bool tr, .int .i64 n, .int .i64 ls, .int .i64 v0, .int .i64 v1, .bool g0, .bool g1]) : Calls Tryz.prog 18 #[.pointer (some ⟨u, 0, none⟩), .int .i64 t] w fun e w' => e = .returned (.int .i64 (BR.E (x.b.switch t))) ∧ UsAt w' u a (x.on (x.b.switch t)) ∧ Mut (only a) w w' := by
  have hb := boot_any h hx.b
  rw [hV] at hb
  have hs := fun W => tswitch_any x.b hx.b t W
  rw [hV] at hs
  obtain ⟨r, hr⟩ : ∃ r, r = x.b.switch t := ⟨_, rfl⟩
  rw [← hr] at hs ⊢
  have HR := Lib.hid hr
  have HS := Lib.hid (fun W => hs W)
  have H := Lib.hid h
  clear hs h hr
  go_enter Tryz.func18, Tryz.ntmps18
  go_wp2_with fail
  refine hb.mono ?_
  rintro e w1 ⟨rfl, hB⟩
  have HB := Lib.hid hB
  clear hB hb
  go_wp2_with fail
  refine (HS.out _).mono ?_
  rintro e w2 ⟨rfl, hB⟩
  have HB2 := Lib.hid (two8b HB.out w2 hB)
  clear hB
  unfold BR.V
  go_wp2_with fail
  cases r with
  | ok b =>
    refine (keep_any (H.out.below HB2.out) hx b (hx.b.switch HR.out.symm)).mono ?_
    rintro e w3 ⟨rfl, hU, hm⟩
    have HU := Lib.hid hU
    have HM := Lib.hid ((Mut.of_below (S := only a) HB2.out).trans hm)
    clear hU hm
    go_wp2_with fail
    go_ret
    exact ⟨rfl, HU.out, HM.out⟩
  | error e =>
    refine (keep_err u 0 0 0 0 0 false false false e ((not_ok0 hx.b).2.2.1 t HR.out.symm) w2).mono ?_
    rintro e2 w3 ⟨rfl, hB3⟩
    have HB3 := Lib.hid (HB2.out.trans (hB3.mono HB2.out.size))
    clear hB3
    go_wp2_with fail
    go_ret
    exact ⟨rfl, H.out.below HB3.out, Mut.of_below HB3.out⟩
theorem uswitch_any {w : World} {u a : Nat} {x : US} (h : UsAt w u a x) (hx : x.Ok) (t : Int) : Calls Tryz.prog 18 #[.pointer (some ⟨u, 0, none⟩), .int .i64 t] w fun e w' => e = .returned (.int .i64 (BR.E (x.b.switch t))) ∧ UsAt w' u a (x.on (x.b.switch t)) ∧ Mut (only a) w w' := by
  obtain ⟨pg, b, m, im, pn⟩ := x
  obtain ⟨ac, tr, gd, n, ls, va, vo⟩ := b
  cases ac
  · exact uswitch_x h hx t 0 n ls va vo tr true gd rfl
  · exact uswitch_x h hx t 1 n ls vo va tr gd true rfl
theorem uconfirm_x {w : World} {u a : Nat} {x : US} (h : UsAt w u a x) (hx : x.Ok) (ac n ls v0 v1 : Int) (tr g0 g1 : Bool) (hV : x.b.V = #[.int .i64 ac, .bool tr, .int .i64 n, .int .i64 ls, .int .i64 v0, .int .i64 v1, .bool g0, .bool g1]) : Calls Tryz.prog 27 #[.pointer (some ⟨u, 0, none⟩)] w fun e w' => e = .returned (.int .i64 (BR.E (x.b.confirm))) ∧ UsAt w' u a (x.on (x.b.confirm)) ∧ Mut (only a) w w' := by
  have hb := boot_any h hx.b
  rw [hV] at hb
  have hs := fun W => tconf_any x.b hx.b  W
  rw [hV] at hs
  obtain ⟨r, hr⟩ : ∃ r, r = x.b.confirm := ⟨_, rfl⟩
  rw [← hr] at hs ⊢
  have HR := Lib.hid hr
  have HS := Lib.hid (fun W => hs W)
  have H := Lib.hid h
  clear hs h hr
  go_enter Tryz.func27, Tryz.ntmps27
  go_wp2_with fail
  refine hb.mono ?_
  rintro e w1 ⟨rfl, hB⟩
  have HB := Lib.hid hB
  clear hB hb
  go_wp2_with fail
  refine (HS.out _).mono ?_
  rintro e w2 ⟨rfl, hB⟩
  have HB2 := Lib.hid (two8b HB.out w2 hB)
  clear hB
  unfold BR.V
  go_wp2_with fail
  cases r with
  | ok b =>
    refine (keep_any (H.out.below HB2.out) hx b (hx.b.confirm HR.out.symm)).mono ?_
    rintro e w3 ⟨rfl, hU, hm⟩
    have HU := Lib.hid hU
    have HM := Lib.hid ((Mut.of_below (S := only a) HB2.out).trans hm)
    clear hU hm
    go_wp2_with fail
    go_ret
    exact ⟨rfl, HU.out, HM.out⟩
  | error e =>
    refine (keep_err u 0 0 0 0 0 false false false e ((not_ok0 hx.b).2.2.2 HR.out.symm) w2).mono ?_
    rintro e2 w3 ⟨rfl, hB3⟩
    have HB3 := Lib.hid (HB2.out.trans (hB3.mono HB2.out.size))
    clear hB3
    go_wp2_with fail
    go_ret
    exact ⟨rfl, H.out.below HB3.out, Mut.of_below HB3.out⟩
theorem uconfirm_any {w : World} {u a : Nat} {x : US} (h : UsAt w u a x) (hx : x.Ok) : Calls Tryz.prog 27 #[.pointer (some ⟨u, 0, none⟩)] w fun e w' => e = .returned (.int .i64 (BR.E (x.b.confirm))) ∧ UsAt w' u a (x.on (x.b.confirm)) ∧ Mut (only a) w w' := by
  obtain ⟨pg, b, m, im, pn⟩ := x
  obtain ⟨ac, tr, gd, n, ls, va, vo⟩ := b
  cases ac
  · exact uconfirm_x h hx  0 n ls va vo tr true gd rfl
  · exact uconfirm_x h hx  1 n ls vo va tr gd true rfl
end Go.Proofs.YticnmogeknlmeaaGreatDoor.B
