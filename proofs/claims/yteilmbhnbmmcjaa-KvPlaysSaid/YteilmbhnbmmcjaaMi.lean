/- Helper: the plain device in memory: made, begun, ended, read; walked. No condition. -/
import Derived.Test.YteilmbhnbmmcjaaMh
import Derived.Test.YteilmbhnbmmcjaaCd
namespace Go.Proofs.Yteilmbhnbmmcjaa.B
open Go.RowKit Go.Maps Go.Proofs.YteilmbhnbmmcjaaW.PrintWords
set_option maxRecDepth 100000
set_option maxHeartbeats 1600000
/-- The plain device. -/
structure Md where
  now : Tree
  opn : Option Tree
  pl : Int
  ks : Int
  rs : Int
  ss : Int
  size : Int
  many : Int
def optAt (w : World) (o : Option Nat) : Option Tree → Prop
  | none => o = none
  | some T => ∃ tp, o = some tp ∧ TreeAt 0 w tp T ∧ WfT T
def mdCells (np : Nat) (oo : Option Nat) (M : Md) (n : Int) : Array Value := #[.map (some np), .map oo, .int .i64 M.pl, .int .i64 M.ks, .int .i64 M.rs, .int .i64 M.ss, .int .i64 M.size, .int .i64 M.many, .int .i64 n]
def MdAt (w : World) (a : Nat) (M : Md) : Prop :=
  ∃ np oo n, Blk w a (mdCells np oo M n) 94 ∧ TreeAt 0 w np M.now ∧ WfT M.now ∧ optAt w oo M.opn ∧ I64 n
theorem optAt.below {w w' : World} {o : Option Nat} {T : Option Tree} (h : optAt w o T) (hb : Below w.heap.size w w') : optAt w' o T := by
  cases T with
  | none => exact h
  | some T => obtain ⟨tp, h1, h2, h3⟩ := h; exact ⟨tp, h1, h2.below hb, h3⟩
theorem MdAt.below {w w' : World} {a : Nat} {M : Md} (h : MdAt w a M) (hb : Below w.heap.size w w') : MdAt w' a M := by
  obtain ⟨np, oo, n, h1, h2, h3, h4, h5⟩ := h
  exact ⟨np, oo, n, h1.below hb, h2.below hb, h3, h4.below hb, h5⟩
/-- A store into a row of cells keeps the trees. -/
theorem TreeAt.setCell {base tp g : Nat} {w : World} {T : Tree} {cs : Array Value} {t : TypeId} (h : TreeAt base w tp T) (hg : Blk w g cs t) (i : Nat) (v : Value) : TreeAt base (w.setCell ⟨g, i, none⟩ v) tp T := by
  refine h.cellsMut (S := only g) ((Mut.refl _ _).cellOf i v) (fun j hj es cl e => ?_)
  obtain rfl := hj
  rw [Blk] at hg
  rw [hg] at e
  cases e
theorem optAt.setCell {g : Nat} {w : World} {o : Option Nat} {T : Option Tree} {cs : Array Value} {t : TypeId} (h : optAt w o T) (hg : Blk w g cs t) (i : Nat) (v : Value) : optAt (w.setCell ⟨g, i, none⟩ v) o T := by
  cases T with
  | none => exact h
  | some T => obtain ⟨tp, h1, h2, h3⟩ := h; exact ⟨tp, h1, h2.setCell hg i v, h3⟩
def T0 : Tree := fun _ => none
theorem T0_wf : WfT T0 := fun _ _ h => by cases h
theorem T0_at (w : World) : TreeAt w.heap.size (w.alloc (.map #[] 0)) w.heap.size T0 := ⟨Nat.le_refl _, _, (MapAt.new codS w).mono (by omega), fun _ _ => rfl, fun _ _ h => (by cases h), fun _ _ _ _ _ _ _ h => (by cases h)⟩
theorem eql92 (W : World) (o : Option Nat) : (binOp .eql 92 (.map o) (.map none)).run Try.prog W = .ok (.bool o.isNone) W := run_eql_map_nil W 92 3 109 o und92
theorem neq92 (W : World) (o : Option Nat) : (binOp .neq 92 (.map o) (.map none)).run Try.prog W = .ok (.bool (!o.isNone)) W := run_neq_map_nil W 92 3 109 o und92
theorem mnew_any (pl ks rs ss size : Int) (w : World) : Calls Try.prog 37 #[.agg #[.int .i64 pl, .int .i64 ks, .int .i64 rs, .int .i64 ss], .int .i64 size] w fun e w' => ∃ a, e = .returned (.pointer (some ⟨a, 0, none⟩)) ∧ w.heap.size ≤ a ∧ MdAt w' a ⟨T0, none, pl, ks, rs, ss, size, 0⟩ ∧ Below w.heap.size w w' := by
  have hmm := @run_makeMap Try.prog
  go_enter Try.func37, Try.ntmps37
  go_wp2
  go_ret
  obtain ⟨wa, hwa⟩ : ∃ wa, wa = w.alloc (.cells #[.int .i64 pl, .int .i64 ks, .int .i64 rs, .int .i64 ss] 80) := ⟨_, rfl⟩
  have hsa : wa.heap.size = w.heap.size + 1 := by rw [hwa]; simp
  rw [← hwa]
  have ht := T0_at wa
  rw [hsa] at ht
  obtain ⟨wb, hwb⟩ : ∃ wb, wb = wa.alloc (.map #[] 0) := ⟨_, rfl⟩
  have hsb : wb.heap.size = w.heap.size + 2 := by rw [hwb]; simp [hsa]
  rw [← hwb] at ht ⊢
  have hk := Blk.new wb (mdCells (w.heap.size + 1) none ⟨T0, none, pl, ks, rs, ss, size, 0⟩ 0) 94
  rw [hsb] at hk
  have hB : Below w.heap.size w wb := by rw [hwb, hwa]; exact ((Below.refl _ _).alloc (Nat.le_refl _) _).alloc (by simp) _
  exact ⟨w.heap.size + 2, rfl, by omega, ⟨_, _, 0, hk, (ht.below ((Below.refl _ _).alloc (Nat.le_refl _) _)).lower (Nat.zero_le _), T0_wf, rfl, by constructor <;> omega⟩, hB.alloc (by omega) _⟩
theorem begin_any (M : Md) (a : Nat) (w : World) (h : MdAt w a M) : Calls Try.prog 15 #[.pointer (some ⟨a, 0, none⟩)] w fun e w' => e = .returned (.int .i64 (if M.opn.isSome then 180 else 0)) ∧ MdAt w' a (if M.opn.isSome then M else { M with opn := some M.now, many := 0 }) ∧ Mut (only a) w w' := by
  obtain ⟨np, oo, n, hb, ht, hw, ho, hn⟩ := h
  have c0 : w.cell? ⟨a, 0, none⟩ = some (.map (some np)) := hb.cell 0
  have c1 : w.cell? ⟨a, 1, none⟩ = some (.map oo) := hb.cell 1
  have c7 : w.cell? ⟨a, 7, none⟩ = some (.int .i64 M.many) := hb.cell 7
  have f1 := hb.free 1
  have f7 := hb.free 7
  have hq1 := neq92
  cases hO : M.opn with
  | none =>
    rw [hO] at ho
    obtain rfl : oo = none := ho
    go_enter Try.func15, Try.ntmps15
    have Hb := Lib.hid hb
    have Ht := Lib.hid ht
    clear hb ht
    go_wp2_with fail
    refine (tclone_any M.now hw 0 np w Ht.out).mono ?_
    rintro e w1 ⟨rfl, h1, hB⟩
    have hb1 := Hb.out.below hB
    have d1 : w1.cell? ⟨a, 1, none⟩ = some (.map none) := hb1.cell 1
    have d7 : w1.cell? ⟨a, 7, none⟩ = some (.int .i64 M.many) := hb1.cell 7
    have g1 := hb1.free 1
    have g7 := hb1.free 7
    have H1 := Lib.hid h1
    have HB := Lib.hid hB
    have Hb1 := Lib.hid hb1
    clear h1 hB hb1
    go_wp2
    go_ret
    have k1 := Hb1.out.set 1 (.map (some w.heap.size))
    have k2 := k1.set 7 (.int .i64 0)
    refine ⟨rfl, ⟨np, some w.heap.size, n, ?_, ?_, hw, ⟨w.heap.size, rfl, ?_, hw⟩, hn⟩, (((Mut.of_below HB.out).cellOf _ _).cellOf _ _)⟩
    · simpa [mdCells] using k2
    · exact ((Ht.out.below HB.out).setCell Hb1.out _ _).setCell k1 _ _
    · exact ((H1.out.lower (Nat.zero_le _)).setCell Hb1.out _ _).setCell k1 _ _
  | some T =>
    rw [hO] at ho
    obtain ⟨tp, rfl, h1, h2⟩ := ho
    go_enter Try.func15, Try.ntmps15
    go_wp2
    go_ret
    exact ⟨rfl, ⟨np, some tp, n, hb, ht, hw, by rw [hO]; exact ⟨tp, rfl, h1, h2⟩, hn⟩, Mut.refl _ _⟩
theorem end_none (M : Md) (a : Nat) (w : World) (h : MdAt w a M) (hO : M.opn = none) (keep : Bool) : Calls Try.prog 48 #[.pointer (some ⟨a, 0, none⟩), .bool keep] w fun e w' => e = .returned (.int .i64 180) ∧ w = w' := by
  obtain ⟨np, oo, n, hb, ht, hw, ho, hn⟩ := h
  have c1 : w.cell? ⟨a, 1, none⟩ = some (.map oo) := hb.cell 1
  have hq1 := eql92
  rw [hO] at ho
  obtain rfl : oo = none := ho
  go_enter Try.func48, Try.ntmps48
  go_wp2
  go_ret
  exact ⟨rfl, rfl⟩
theorem end_some (M : Md) (a : Nat) (w : World) (h : MdAt w a M) (T : Tree) (hO : M.opn = some T) (keep : Bool) : Calls Try.prog 48 #[.pointer (some ⟨a, 0, none⟩), .bool keep] w fun e w' => e = .returned (.int .i64 0) ∧ MdAt w' a { M with now := if keep then T else M.now, opn := none } ∧ Mut (only a) w w' := by
  obtain ⟨np, oo, n, hb, ht, hw, ho, hn⟩ := h
  have c0 : w.cell? ⟨a, 0, none⟩ = some (.map (some np)) := hb.cell 0
  have c1 : w.cell? ⟨a, 1, none⟩ = some (.map oo) := hb.cell 1
  have f0 := hb.free 0
  have f1 := hb.free 1
  have hq1 := eql92
  rw [hO] at ho
  obtain ⟨tp, rfl, h1, h2⟩ := ho
  have Hb := Lib.hid hb
  have Ht := Lib.hid ht
  have H1 := Lib.hid h1
  clear hb ht h1
  have hm := Mut.refl (only a) w
  cases keep
  · go_enter Try.func48, Try.ntmps48
    go_wp2
    go_ret
    refine ⟨rfl, ⟨np, none, n, ?_, Ht.out.setCell Hb.out _ _, hw, rfl, hn⟩, hm.cellOf _ _⟩
    have k1 := Hb.out.set 1 (.map none)
    simpa [mdCells] using k1
  · go_enter Try.func48, Try.ntmps48
    go_wp2
    go_ret
    have k0 := Hb.out.set 0 (.map (some tp))
    refine ⟨rfl, ⟨tp, none, n, ?_, (H1.out.setCell Hb.out _ _).setCell k0 _ _, h2, rfl, hn⟩, (hm.cellOf _ _).cellOf _ _⟩
    have k1 := k0.set 1 (.map none)
    simpa [mdCells] using k1
def mEnd (M : Md) (keep : Bool) : Int × Md := match M.opn with
  | none => (180, M)
  | some T => (0, { M with now := if keep then T else M.now, opn := none })
theorem end_m (M : Md) (a : Nat) (w : World) (h : MdAt w a M) (keep : Bool) : Calls Try.prog 48 #[.pointer (some ⟨a, 0, none⟩), .bool keep] w fun e w' => e = .returned (.int .i64 (mEnd M keep).1) ∧ MdAt w' a (mEnd M keep).2 ∧ Mut (only a) w w' := by
  cases hO : M.opn with
  | none =>
    refine (end_none M a w h hO keep).mono ?_
    rintro e w' ⟨rfl, rfl⟩
    simp only [mEnd, hO]
    exact ⟨trivial, h, Mut.refl _ _⟩
  | some T =>
    refine (end_some M a w h T hO keep).mono ?_
    rintro e w' ⟨rfl, h1, h2⟩
    simp only [mEnd, hO]
    exact ⟨trivial, h1, h2⟩
theorem commit_m (M : Md) (a : Nat) (w : World) (h : MdAt w a M) : Calls Try.prog 17 #[.pointer (some ⟨a, 0, none⟩)] w fun e w' => e = .returned (.int .i64 (mEnd M true).1) ∧ MdAt w' a (mEnd M true).2 ∧ Mut (only a) w w' := by
  go_enter Try.func17, Try.ntmps17
  go_wp2_with fail
  refine (end_m M a w h true).mono ?_
  rintro e w1 ⟨rfl, h1, h2⟩
  go_wp2
  go_ret
  exact ⟨rfl, h1, h2⟩
theorem abort_m (M : Md) (a : Nat) (w : World) (h : MdAt w a M) : Calls Try.prog 127 #[.pointer (some ⟨a, 0, none⟩)] w fun e w' => e = .returned (.int .i64 (mEnd M false).1) ∧ MdAt w' a (mEnd M false).2 ∧ Mut (only a) w w' := by
  go_enter Try.func127, Try.ntmps127
  go_wp2_with fail
  refine (end_m M a w h false).mono ?_
  rintro e w1 ⟨rfl, h1, h2⟩
  go_wp2
  go_ret
  exact ⟨rfl, h1, h2⟩
def Md.see (M : Md) : Tree := M.opn.getD M.now
theorem see_m (M : Md) (a : Nat) (w : World) (h : MdAt w a M) : Calls Try.prog 129 #[.pointer (some ⟨a, 0, none⟩)] w fun e w' => (∃ tp, e = .returned (.map (some tp)) ∧ TreeAt 0 w tp M.see ∧ WfT M.see) ∧ w = w' := by
  obtain ⟨np, oo, n, hb, ht, hw, ho, hn⟩ := h
  have c0 : w.cell? ⟨a, 0, none⟩ = some (.map (some np)) := hb.cell 0
  have c1 : w.cell? ⟨a, 1, none⟩ = some (.map oo) := hb.cell 1
  have hq1 := neq92
  have Ht := Lib.hid ht
  clear hb ht
  cases hO : M.opn with
  | none =>
    rw [hO] at ho
    obtain rfl : oo = none := ho
    go_enter Try.func129, Try.ntmps129
    go_wp2
    go_ret
    exact ⟨⟨np, rfl, by simpa [Md.see, hO] using Ht.out, by simpa [Md.see, hO] using hw⟩, rfl⟩
  | some T =>
    rw [hO] at ho
    obtain ⟨tp, rfl, h1, h2⟩ := ho
    have H1 := Lib.hid h1
    clear h1
    go_enter Try.func129, Try.ntmps129
    go_wp2
    go_ret
    exact ⟨⟨tp, rfl, by simpa [Md.see, hO] using H1.out, by simpa [Md.see, hO] using h2⟩, rfl⟩
/-- What a page says; none: there is no such one. -/
def page? (T : Tree) (id p : Int) : Option ByteArray := (T id).bind fun sp => sp.pages p
def gotS : Option ByteArray → ByteArray
  | none => ⟨#[]⟩
  | some s => s
def gotE : Option ByteArray → Int
  | none => 181
  | some _ => 0
theorem field109_2 (q : Int) (s : Bool) (m : Option Nat) (W : World) : (Instr.field 109 (.agg #[.int .i64 q, .bool s, .map m]) 2).run Try.prog W = .ok (.map m) W := by kernel_rfl
theorem field109_0 (q : Int) (s : Bool) (m : Option Nat) (W : World) : (Instr.field 109 (.agg #[.int .i64 q, .bool s, .map m]) 0).run Try.prog W = .ok (.int .i64 q) W := by kernel_rfl
theorem get_m (M : Md) (a : Nat) (w : World) (h : MdAt w a M) (id p : Int) (hid : I64 id) (hp : I64 p) : Calls Try.prog 128 #[.pointer (some ⟨a, 0, none⟩), .int .i64 id, .int .i64 p] w fun e w' => e = .returned (.tuple #[.string (gotS (page? M.see id p)), .int .i64 (gotE (page? M.see id p))]) ∧ Below w.heap.size w w' := by
  have hfd := field109_2
  go_enter Try.func128, Try.ntmps128
  go_wp2_with fail
  refine (see_m M a w h).mono ?_
  rintro e w1 ⟨⟨tp, rfl, ht, hw⟩, rfl⟩
  have hB := Below.refl w.heap.size w
  obtain ⟨_, F, hM, hP⟩ := ht
  rcases phys_look hM hP hid with ⟨hn, hl⟩ | ⟨sp, rp, hsm, _, _, _, hpg, hl⟩
  · have hl1 := hl false
    simp only [if_false, Bool.false_eq_true] at hl1
    have hl2 := Maps.look_nil (P := Try.prog) true law3 und107 (zero111 w) (key3 hp)
    simp only [if_true, codL] at hl2
    have e0 : page? M.see id p = none := by simp [page?, hn]
    have E0 := Lib.hid e0
    clear e0
    clear hl hP hM
    go_wp2
    go_ret2
    rw [E0.out]
    exact ⟨rfl, hB.alloc (Nat.le_refl _) _⟩
  · have hl1 := hl false
    simp only [if_false, Bool.false_eq_true] at hl1
    obtain ⟨G, hG1, hG2, _⟩ := hpg
    have hl2 := (hG1.look und107 (zero111 w) hp).1
    have e0 : page? M.see id p = (G p).map (·.1) := by rw [hG2]; simp [page?, hsm]
    have E0 := Lib.hid e0
    clear e0
    clear hl hP hM hG1 hG2
    cases hG : G p with
    | none =>
      rw [hG] at hl2
      simp only [codL, Option.getD_none, Option.isSome_none] at hl2
      go_wp2
      go_ret2
      rw [E0.out, hG]
      exact ⟨rfl, hB.alloc (Nat.le_refl _) _⟩
    | some u =>
      rw [hG] at hl2
      simp only [codL, Option.getD_some, Option.isSome_some] at hl2
      go_wp2
      go_ret2
      rw [E0.out, hG]
      exact ⟨rfl, hB.alloc (Nat.le_refl _) _⟩
end Go.Proofs.Yteilmbhnbmmcjaa.B
