/- Helper: a store made, opened; a page of it loaded; a key that may be; walked. No condition. -/
import Derived.Test.YteilmbhnbmmcjaaKf
import Derived.Test.YteilmbhnbmmcjaaLi
namespace Go.Proofs.Yteilmbhnbmmcjaa.B
open Go.RowKit Go.Proofs.YteilmbhnbmmcjaaW.PrintWords Go.Proofs.Yteilmbhnbmmcjaa.Later
set_option maxRecDepth 100000
set_option maxHeartbeats 1600000
def rKv : Rc := ⟨4, 5, 0, 0, 0, 4⟩
theorem rKv_may : rKv.may = true := by decide
theorem rKv_do : doT T0 rKv = (0, LT 5 4 noPages false) := by
  have : T0 rKv.s = none := rfl
  simp only [doT, this]
  rw [if_pos (show rKv.k = 4 from rfl)]
  exact congrArg (Prod.mk 0) (T0_up 5 4 noPages false)
theorem noPg4 : PgIn 4 noPages := fun _ _ h => by cases h
theorem kmake_nil (id : Int) (w : World) : Calls Try.prog 27 #[Value.nilIface, .int .i64 id] w fun e w' => e = .returned (.int .i64 1) ∧ w = w' := by
  have q := nilEq82
  go_enter Try.func27, Try.ntmps27
  go_wp2
  go_ret
  exact ⟨rfl, rfl⟩
def rKv0 : Rc := ⟨4, 0, 0, 0, 0, 4⟩
theorem rKv0_may : rKv0.may = false := by decide
theorem kmake_zero (a : Nat) (w : World) (hM : MdAt w a (mkM T0 none 0)) : Calls Try.prog 27 #[dv a, .int .i64 0] w fun e w' => e = .returned (.int .i64 1) ∧ MdAt w' a (mkM T0 none 0) ∧ Mut (only a) w w' := by
  have HM := Lib.hid hM
  clear hM
  have q1 := methBegin a
  have q4 := methAbort a
  have q5 := methDo a
  show Calls Try.prog 27 #[.iface 23 (.pointer (some ⟨a, 0, none⟩)), .int .i64 0] w _
  go_enter Try.func27, Try.ntmps27
  go_wp2_with fail
  refine (begin_any _ a w HM.out).mono ?_
  rintro e w1 ⟨rfl, h1, hm1⟩
  have H1 := Lib.hid (show MdAt w1 a (mkM T0 (some T0) 0) from h1)
  have Hm1 := Lib.hid hm1
  clear h1 hm1
  go_wp2_with fail
  have hd := do_m4 (mkM T0 (some T0) 0) a w1 H1.out T0 rfl (by simp [mkM]) rKv0 rfl (by constructor <;> decide) (fun h => by rw [rKv0_may] at h; cases h) (fun h => by rw [rKv0_may] at h; cases h)
  rw [rKv0_may, if_neg (by decide)] at hd
  refine hd.mono ?_
  rintro e w2 ⟨rfl, h2, hm2⟩
  have H2 := Lib.hid (show MdAt w2 a (mkM T0 (some T0) 0) from h2)
  have Hm2 := Lib.hid (Hm1.out.trans hm2)
  clear h2 hm2 hd
  go_wp2_with fail
  refine (abort_m _ a w2 H2.out).mono ?_
  rintro e w3 ⟨rfl, h3, hm3⟩
  have H3 := Lib.hid h3
  have Hm3 := Lib.hid (Hm2.out.trans hm3)
  clear h3 hm3
  go_wp2
  go_ret
  exact ⟨rfl, H3.out, Hm3.out⟩
theorem kmake_ok (a : Nat) (w : World) (hM : MdAt w a (mkM T0 none 0)) : Calls Try.prog 27 #[dv a, .int .i64 5] w fun e w' => e = .returned (.int .i64 0) ∧ MdAt w' a (mkM (LT 5 4 noPages false) none 1) ∧ Mut (only a) w w' := by
  have HM := Lib.hid hM
  clear hM
  have q1 := methBegin a
  have q3 := methCommit a
  have q4 := methAbort a
  have q5 := methDo a
  show Calls Try.prog 27 #[.iface 23 (.pointer (some ⟨a, 0, none⟩)), .int .i64 5] w _
  go_enter Try.func27, Try.ntmps27
  go_wp2_with fail
  refine (begin_any _ a w HM.out).mono ?_
  rintro e w1 ⟨rfl, h1, hm1⟩
  have H1 := Lib.hid (show MdAt w1 a (mkM T0 (some T0) 0) from h1)
  have Hm1 := Lib.hid hm1
  clear h1 hm1
  go_wp2_with fail
  have hd := do_m4 (mkM T0 (some T0) 0) a w1 H1.out T0 rfl (by simp [mkM]) rKv rfl (by constructor <;> decide) (fun _ => by rw [rKv_do]; exact LT_wf (by omega) (by omega) (by omega) (by omega) noPg4 false) (fun _ _ => by rw [rKv_do, LT_total (by omega) (by omega)]; refine ⟨?_, ?_, by decide⟩ <;> simp [mkM])
  rw [rKv_may, if_pos rfl, rKv_do] at hd
  refine hd.mono ?_
  rintro e w2 ⟨rfl, h2, hm2⟩
  have H2 := Lib.hid (show MdAt w2 a (mkM T0 (some (LT 5 4 noPages false)) 1) from h2)
  have Hm2 := Lib.hid (Hm1.out.trans hm2)
  clear h2 hm2 hd
  have es : (mStep (mkM T0 (some T0) 0) (0, LT 5 4 noPages false)).1 = 0 := rfl
  rw [es]
  go_wp2_with fail
  refine (commit_m _ a w2 H2.out).mono ?_
  rintro e w4 ⟨rfl, h4, hm4⟩
  have H4 := Lib.hid h4
  have Hm4 := Lib.hid (Hm2.out.trans hm4)
  clear h4 hm4
  go_wp2
  go_ret
  exact ⟨rfl, H4.out, Hm4.out⟩
theorem kopen_nil (id size : Int) (w : World) : Calls Try.prog 29 #[Value.nilIface, .int .i64 id, .int .i64 size] w fun e w' => e = .returned (.tuple #[.pointer none, .int .i64 1]) ∧ w = w' := by
  have q := nilEq82
  go_enter Try.func29, Try.ntmps29
  go_wp2
  go_ret2
  exact ⟨rfl, rfl⟩
def stC (a : Nat) : Array Value := #[dv a, .int .i64 5, .int .i64 64]
def openE (size : Int) : Int := if size < 64 ∨ 256 < size then 1 else 0
theorem kopen_size (a : Nat) (size : Int) (w : World) : Calls Try.prog 29 #[dv a, .int .i64 5, .int .i64 size] w fun e w' => (∃ v, e = .returned (.tuple #[v, .int .i64 (openE size)]) ∧ (size = 64 → v = .pointer (some ⟨w.heap.size, 0, none⟩) ∧ Blk w' w.heap.size (stC a) 113)) ∧ Below w.heap.size w w' := by
  show Calls Try.prog 29 #[.iface 23 (.pointer (some ⟨a, 0, none⟩)), .int .i64 5, .int .i64 size] w _
  by_cases h : size < 64
  · have e1 : openE size = 1 := if_pos (by omega)
    rw [e1]
    go_enter Try.func29, Try.ntmps29
    go_wp2
    go_ret2
    exact ⟨⟨_, rfl, fun h => by omega⟩, Below.refl _ _⟩
  · have h1 : 64 ≤ size := by omega
    by_cases h2 : 256 < size
    · have e1 : openE size = 1 := if_pos (by omega)
      rw [e1]
      go_enter Try.func29, Try.ntmps29
      go_wp2
      go_ret2
      exact ⟨⟨_, rfl, fun h => by omega⟩, Below.refl _ _⟩
    · have e1 : openE size = 0 := if_neg (by omega)
      rw [e1]
      have h3 : size ≤ 256 := by omega
      go_enter Try.func29, Try.ntmps29
      go_wp2
      go_ret2
      exact ⟨⟨_, rfl, fun h => ⟨rfl, by subst h; exact Blk.new w _ 113⟩⟩, (Below.refl _ _).alloc (Nat.le_refl _) _⟩
/-- A page's pairs. -/
def loadP (o : Option (List UInt8)) (k : Nat) : Int × List Pr := match o with
  | none => (0, [])
  | some s => prsF k (s.length + 1) s []
def pgB (pg : Nat → Option (List UInt8)) (T : Tree) : Prop := ∀ k : Nat, k < 4 → page? T 5 (k : Int) = (pg k).map bs ∧ ∀ s, pg k = some s → s.length ≤ 64
theorem load_any (M : Md) (a g : Nat) (pg : Nat → Option (List UInt8)) (hp : pgB pg M.see) (k : Nat) (hk : k < 4) (w : World) (hM : MdAt w a M) (hg : Blk w g (stC a) 113) :
    Calls Try.prog 57 #[.pointer (some ⟨g, 0, none⟩), .int .i64 k] w (PairsPost (loadP (pg k) k) w.heap.size w) := by
  have c0 : w.cell? ⟨g, 0, none⟩ = some (.iface 23 (.pointer (some ⟨a, 0, none⟩))) := hg.cell 0
  have c1 : w.cell? ⟨g, 1, none⟩ = some (.int .i64 5) := hg.cell 1
  have q1 := methGet a
  have q3 := nilGet a
  have hpk := hp k hk
  obtain ⟨o, ho⟩ : ∃ o, o = pg k := ⟨_, rfl⟩
  rw [← ho] at hpk ⊢
  obtain ⟨hp1, hp2⟩ := hpk
  have m1 := calls_later (P := Try.prog) (f := 128) (w := w) (v := .tuple #[.string (gotS (o.map bs)), .int .i64 (gotE (o.map bs))]) (fun w2 hb2 => by rw [← hp1]; exact get_m M a w2 (hM.below hb2) 5 (k : Int) (by constructor <;> omega) (by constructor <;> omega))
  have Hp2 := Lib.hid hp2
  clear hp1 hp2 hp ho hM hg
  go_enter Try.func57, Try.ntmps57
  go_upto_region 1 with fail
  have k0 := fun n => later_cell c0 n
  have k1 := fun n => later_cell c1 n
  refine wp_region_later (by kernel_rfl) (by kernel_rfl) ?_
  repeat (any_goals (first | go_big_quiet_step ((with_reducible exact m1 _)) | quiet_step ((with_reducible exact m1 _))))
  refine wpQuiet_nil ?_
  intro w2 hw2
  have hb2 := later_of hw2
  have HB2 := Lib.hid hb2
  clear hw2 m1 k0 k1 c0 c1 hb2
  cases o with
  | none =>
    rw [show gotE (Option.map bs none) = 181 from rfl]
    go_wp2
    go_ret2
    exact ⟨⟨_, rfl, fun _ => Kd.R_nil _ _ _ _ _, fun h => absurd rfl h⟩, HB2.out⟩
  | some s =>
    rw [show gotE (Option.map bs (some s)) = 0 from rfl, show gotS (Option.map bs (some s)) = bs s from rfl]
    go_wp2_with fail
    refine (pairs_any s (by have := Hp2.out s rfl; omega) k w2).mono ?_
    rintro e w3 ⟨⟨v, rfl, h1, h2⟩, hb3⟩
    have H1 := Lib.hid h1
    have H2 := Lib.hid h2
    have HB3 := Lib.hid (HB2.out.trans (hb3.mono HB2.out.size))
    clear h1 h2 hb3
    go_wp2
    go_ret2
    exact ⟨⟨_, rfl, fun h => Kd.R_lower (H1.out h) HB2.out.size, H2.out⟩, HB3.out⟩
def goodK (k v : List UInt8) : Bool := decide (k ≠ []) && decide (k.length ≤ 16) && decide (v.length ≤ 30)
theorem good_any (k v : List UInt8) (hk : k.length ≤ 9223372036854775807) (hv : v.length ≤ 9223372036854775807) (w : World) : Calls Try.prog 67 #[.string (bs k), .string (bs v)] w fun e w' => e = .returned (.bool (goodK k v)) ∧ Below w.heap.size w w' := by
  have h1 := bs_size k
  have h2 := bs_size v
  by_cases h0 : k = []
  · subst h0
    have hi : (bs ([] : List UInt8)).toList.isEmpty = true := by rw [bs_isnil]; rfl
    have e : goodK [] v = false := rfl
    rw [e]
    go_enter Try.func67, Try.ntmps67
    go_wp2
    go_ret
    exact ⟨rfl, Below.refl _ _⟩
  · have hi : (bs k).toList.isEmpty = false := by rw [bs_isnil]; simp [h0]
    by_cases h3 : k.length ≤ 16
    · have h3' : decide ((k.length : Int) ≤ 16) = true := by simp; omega
      by_cases h4 : v.length ≤ 30
      · have h4' : decide ((v.length : Int) ≤ 30) = true := by simp; omega
        have e : goodK k v = true := by simp [goodK, h0, h3, h4]
        rw [e]
        go_enter Try.func67, Try.ntmps67
        go_wp2
        go_ret
        exact ⟨rfl, Below.refl _ _⟩
      · have h4' : decide ((v.length : Int) ≤ 30) = false := by simp; omega
        have e : goodK k v = false := by simp [goodK, h0, h3, h4]
        rw [e]
        go_enter Try.func67, Try.ntmps67
        go_wp2
        go_ret
        exact ⟨rfl, Below.refl _ _⟩
    · have h3' : decide ((k.length : Int) ≤ 16) = false := by simp; omega
      have e : goodK k v = false := by simp [goodK, h0, h3]
      rw [e]
      go_enter Try.func67, Try.ntmps67
      go_wp2
      go_ret
      exact ⟨rfl, Below.refl _ _⟩
end Go.Proofs.Yteilmbhnbmmcjaa.B
