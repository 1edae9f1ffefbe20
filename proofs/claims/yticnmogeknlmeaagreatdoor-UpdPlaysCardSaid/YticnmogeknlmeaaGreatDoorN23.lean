/- Helper: acts on what is kept of slots, plainly; both texts walked. No condition. -/
import Derived.Test.YticnmogeknlmeaaGreatDoorN22
namespace Go.Proofs.YticnmogeknlmeaaGreatDoor.B
open Go.RowKit Go.Proofs.YticnmogeknlmeaaGreatDoorW.PrintWords
set_option maxRecDepth 100000
set_option maxHeartbeats 1600000
abbrev BR := Except Int Bt
def BR.C : BR → Array Value
  | .ok b => b.V
  | .error _ => bt0
def BR.E : BR → Int
  | .ok _ => 0
  | .error e => e
def BR.V (r : BR) : Value := .tuple #[.agg r.C, .int .i64 r.E]
def Bt.inst (b : Bt) (v : Nat) : BR := if b.tr then .error 211 else if v < b.ls then .error 210 else if 1073741824 < v then .error 1 else .ok { b with gd := false, vo := v }
def Bt.ready (b : Bt) : BR := if b.tr then .error 211 else if b.vo < b.ls then .error 210 else .ok { b with gd := true }
def Bt.switch (b : Bt) (t : Int) : BR := if t < 1 then .error 1 else if 7 < t then .error 1 else if b.tr then .error 211 else if b.gd = false then .error 212 else if b.vo < b.ls then .error 210 else .ok ⟨!b.ac, true, true, t.toNat, b.ls, b.vo, b.va⟩
def Bt.start (b : Bt) : Bt := if b.tr then (if b.n = 0 then ⟨!b.ac, false, false, 0, b.ls, b.vo, b.va⟩ else { b with n := b.n - 1 }) else b
def Bt.confirm (b : Bt) : BR := if b.tr then .ok ⟨b.ac, false, b.gd, 0, if b.ls < b.va then b.va else b.ls, b.va, b.vo⟩ else .error 211
theorem Bt.Ok.inst {b c : Bt} (h : b.Ok) {v : Nat} (e : b.inst v = .ok c) : c.Ok := by
  unfold Bt.inst at e
  by_cases h1 : b.tr = true
  · rw [if_pos h1] at e; cases e
  · rw [if_neg h1] at e
    by_cases h2 : v < b.ls
    · rw [if_pos h2] at e; cases e
    · rw [if_neg h2] at e
      by_cases h3 : 1073741824 < v
      · rw [if_pos h3] at e; cases e
      · rw [if_neg h3] at e
        cases e
        exact ⟨h.n7, h.l1, h.lM, h.a0, h.aM, by dsimp only; omega, h.t0, fun k => absurd k h1⟩
theorem Bt.Ok.ready {b c : Bt} (h : b.Ok) (e : b.ready = .ok c) : c.Ok := by
  unfold Bt.ready at e
  by_cases h1 : b.tr = true
  · rw [if_pos h1] at e; cases e
  · rw [if_neg h1] at e
    by_cases h2 : b.vo < b.ls
    · rw [if_pos h2] at e; cases e
    · rw [if_neg h2] at e
      cases e
      exact ⟨h.n7, h.l1, h.lM, h.a0, h.aM, h.oM, h.t0, fun k => absurd k h1⟩
theorem Bt.Ok.switch {b c : Bt} (h : b.Ok) {t : Int} (e : b.switch t = .ok c) : c.Ok := by
  unfold Bt.switch at e
  by_cases h1 : t < 1
  · rw [if_pos h1] at e; cases e
  · rw [if_neg h1] at e
    by_cases h2 : 7 < t
    · rw [if_pos h2] at e; cases e
    · rw [if_neg h2] at e
      by_cases h3 : b.tr = true
      · rw [if_pos h3] at e; cases e
      · rw [if_neg h3] at e
        by_cases h4 : b.gd = false
        · rw [if_pos h4] at e; cases e
        · rw [if_neg h4] at e
          by_cases h5 : b.vo < b.ls
          · rw [if_pos h5] at e; cases e
          · rw [if_neg h5] at e
            cases e
            exact ⟨by dsimp only; omega, h.l1, h.lM, by dsimp only; omega, h.oM, h.aM, fun k => (by cases k), fun _ => ⟨rfl, h.a0⟩⟩
theorem Bt.Ok.start {b : Bt} (h : b.Ok) : b.start.Ok := by
  unfold Bt.start
  by_cases h1 : b.tr = true
  · rw [if_pos h1]
    by_cases h2 : b.n = 0
    · rw [if_pos h2]
      exact ⟨by dsimp only; omega, h.l1, h.lM, (h.t1 h1).2, h.oM, h.aM, fun _ => rfl, fun k => by cases k⟩
    · rw [if_neg h2]
      exact ⟨by have := h.n7; dsimp only; omega, h.l1, h.lM, h.a0, h.aM, h.oM, fun k => absurd h1 (by dsimp only at k; rw [k]; decide), h.t1⟩
  · rw [if_neg h1]; exact h
theorem Bt.Ok.confirm {b c : Bt} (h : b.Ok) (e : b.confirm = .ok c) : c.Ok := by
  unfold Bt.confirm at e
  by_cases h1 : b.tr = true
  · rw [if_pos h1] at e
    cases e
    have := h.a0; have := h.aM; have := h.lM; have := h.l1
    refine ⟨by dsimp only; omega, ?_, ?_, ?_, h.aM, h.oM, fun _ => rfl, fun k => by cases k⟩ <;> (dsimp only; split <;> omega)
  · rw [if_neg h1] at e; cases e
theorem tinst_any (b : Bt) (h : b.Ok) (v : Nat) (w : World) : Calls Tryz.prog 38 #[.agg b.V, .int .i64 (v : Int)] w fun e w' => e = .returned ((b.inst v).V) ∧ Below w.heap.size w w' := by
  have hc := fun w => tcheck_any b h w
  obtain ⟨n7, l1, lM, a0, aM, oM, t0, t1⟩ := h
  obtain ⟨ac, tr, gd, n, ls, va, vo⟩ := b
  dsimp only at *
  by_cases h1 : tr = true
  · subst h1
    rw [show (Bt.inst ⟨ac, true, gd, n, ls, va, vo⟩ v : BR) = .error 211 by simp [Bt.inst]]
    cases ac
    · exact tinst_f_tr gd n ls va vo v hc w
    · exact tinst_t_tr gd n ls va vo v hc w
  · by_cases h2 : v < ls
    · obtain rfl : tr = false := by simpa using h1
      rw [show (Bt.inst ⟨ac, false, gd, n, ls, va, vo⟩ v : BR) = .error 210 by simp [Bt.inst, h2]]
      cases ac
      · exact tinst_f_old gd n ls va vo v hc (decide_eq_true (by omega)) w
      · exact tinst_t_old gd n ls va vo v hc (decide_eq_true (by omega)) w
    · by_cases h3 : 1073741824 < v
      · obtain rfl : tr = false := by simpa using h1
        rw [show (Bt.inst ⟨ac, false, gd, n, ls, va, vo⟩ v : BR) = .error 1 by simp [Bt.inst, h2, h3]]
        cases ac
        · exact tinst_f_far gd n ls va vo v hc (decide_eq_false (by omega)) (decide_eq_true (by omega)) w
        · exact tinst_t_far gd n ls va vo v hc (decide_eq_false (by omega)) (decide_eq_true (by omega)) w
      · obtain rfl : tr = false := by simpa using h1
        rw [show (Bt.inst ⟨ac, false, gd, n, ls, va, vo⟩ v : BR) = .ok ⟨ac, false, false, n, ls, va, v⟩ by simp [Bt.inst, h2, h3]]
        cases ac
        · exact tinst_f_ok gd n ls va vo v hc (decide_eq_false (by omega)) (decide_eq_false (by omega)) w
        · exact tinst_t_ok gd n ls va vo v hc (decide_eq_false (by omega)) (decide_eq_false (by omega)) w
theorem ract0_any (b : Bt) (h : b.Ok) (v : Nat) (w : World) : Calls Tryz.prog 36 #[.agg b.V, .int .i64 0, .int .i64 (v : Int)] w fun e w' => e = .returned ((b.inst v).V) ∧ Below w.heap.size w w' := by
  have hc := fun w => rcheck_any b h w
  obtain ⟨n7, l1, lM, a0, aM, oM, t0, t1⟩ := h
  obtain ⟨ac, tr, gd, n, ls, va, vo⟩ := b
  dsimp only at *
  by_cases h1 : tr = true
  · subst h1
    rw [show (Bt.inst ⟨ac, true, gd, n, ls, va, vo⟩ v : BR) = .error 211 by simp [Bt.inst]]
    cases ac
    · exact ract0_f_tr gd n ls va vo v hc w
    · exact ract0_t_tr gd n ls va vo v hc w
  · by_cases h2 : v < ls
    · obtain rfl : tr = false := by simpa using h1
      rw [show (Bt.inst ⟨ac, false, gd, n, ls, va, vo⟩ v : BR) = .error 210 by simp [Bt.inst, h2]]
      cases ac
      · exact ract0_f_old gd n ls va vo v hc (decide_eq_true (by omega)) w
      · exact ract0_t_old gd n ls va vo v hc (decide_eq_true (by omega)) w
    · by_cases h3 : 1073741824 < v
      · obtain rfl : tr = false := by simpa using h1
        rw [show (Bt.inst ⟨ac, false, gd, n, ls, va, vo⟩ v : BR) = .error 1 by simp [Bt.inst, h2, h3]]
        cases ac
        · exact ract0_f_far gd n ls va vo v hc (decide_eq_false (by omega)) (decide_eq_true (by omega)) w
        · exact ract0_t_far gd n ls va vo v hc (decide_eq_false (by omega)) (decide_eq_true (by omega)) w
      · obtain rfl : tr = false := by simpa using h1
        rw [show (Bt.inst ⟨ac, false, gd, n, ls, va, vo⟩ v : BR) = .ok ⟨ac, false, false, n, ls, va, v⟩ by simp [Bt.inst, h2, h3]]
        cases ac
        · exact ract0_f_ok gd n ls va vo v hc (decide_eq_false (by omega)) (decide_eq_false (by omega)) w
        · exact ract0_t_ok gd n ls va vo v hc (decide_eq_false (by omega)) (decide_eq_false (by omega)) w
theorem tready_any (b : Bt) (h : b.Ok) (w : World) : Calls Tryz.prog 46 #[.agg b.V] w fun e w' => e = .returned (b.ready.V) ∧ Below w.heap.size w w' := by
  have hc := fun w => tcheck_any b h w
  obtain ⟨n7, l1, lM, a0, aM, oM, t0, t1⟩ := h
  obtain ⟨ac, tr, gd, n, ls, va, vo⟩ := b
  dsimp only at *
  by_cases h1 : tr = true
  · subst h1
    rw [show (Bt.ready ⟨ac, true, gd, n, ls, va, vo⟩ : BR) = .error 211 by simp [Bt.ready]]
    cases ac
    · exact tready_f_tr gd n ls va vo hc w
    · exact tready_t_tr gd n ls va vo hc w
  · by_cases h2 : vo < ls
    · obtain rfl : tr = false := by simpa using h1
      rw [show (Bt.ready ⟨ac, false, gd, n, ls, va, vo⟩ : BR) = .error 210 by simp [Bt.ready, h2]]
      cases ac
      · exact tready_f_old gd n ls va vo hc (decide_eq_true (by omega)) w
      · exact tready_t_old gd n ls va vo hc (decide_eq_true (by omega)) w
    · obtain rfl : tr = false := by simpa using h1
      rw [show (Bt.ready ⟨ac, false, gd, n, ls, va, vo⟩ : BR) = .ok ⟨ac, false, true, n, ls, va, vo⟩ by simp [Bt.ready, h2]]
      cases ac
      · exact tready_f_ok gd n ls va vo hc (decide_eq_false (by omega)) w
      · exact tready_t_ok gd n ls va vo hc (decide_eq_false (by omega)) w
theorem ract1_any (b : Bt) (h : b.Ok) (v : Int) (w : World) : Calls Tryz.prog 36 #[.agg b.V, .int .i64 1, .int .i64 v] w fun e w' => e = .returned (b.ready.V) ∧ Below w.heap.size w w' := by
  have hc := fun w => rcheck_any b h w
  obtain ⟨n7, l1, lM, a0, aM, oM, t0, t1⟩ := h
  obtain ⟨ac, tr, gd, n, ls, va, vo⟩ := b
  dsimp only at *
  by_cases h1 : tr = true
  · subst h1
    rw [show (Bt.ready ⟨ac, true, gd, n, ls, va, vo⟩ : BR) = .error 211 by simp [Bt.ready]]
    cases ac
    · exact ract1_f_tr gd n ls va vo v hc w
    · exact ract1_t_tr gd n ls va vo v hc w
  · by_cases h2 : vo < ls
    · obtain rfl : tr = false := by simpa using h1
      rw [show (Bt.ready ⟨ac, false, gd, n, ls, va, vo⟩ : BR) = .error 210 by simp [Bt.ready, h2]]
      cases ac
      · exact ract1_f_old gd n ls va vo v hc (decide_eq_true (by omega)) w
      · exact ract1_t_old gd n ls va vo v hc (decide_eq_true (by omega)) w
    · obtain rfl : tr = false := by simpa using h1
      rw [show (Bt.ready ⟨ac, false, gd, n, ls, va, vo⟩ : BR) = .ok ⟨ac, false, true, n, ls, va, vo⟩ by simp [Bt.ready, h2]]
      cases ac
      · exact ract1_f_ok gd n ls va vo v hc (decide_eq_false (by omega)) w
      · exact ract1_t_ok gd n ls va vo v hc (decide_eq_false (by omega)) w
theorem tswitch_any (b : Bt) (h : b.Ok) (t : Int) (w : World) : Calls Tryz.prog 49 #[.agg b.V, .int .i64 t] w fun e w' => e = .returned ((b.switch t).V) ∧ Below w.heap.size w w' := by
  have hc := fun w => tcheck_any b h w
  obtain ⟨n7, l1, lM, a0, aM, oM, t0, t1⟩ := h
  obtain ⟨ac, tr, gd, n, ls, va, vo⟩ := b
  dsimp only at *
  by_cases h1 : t < 1
  · rw [show (Bt.switch ⟨ac, tr, gd, n, ls, va, vo⟩ t : BR) = .error 1 by simp [Bt.switch, h1]]
    cases ac
    · exact tswitch_f_lo tr gd n ls va vo t hc (decide_eq_true (by omega)) w
    · exact tswitch_t_lo tr gd n ls va vo t hc (decide_eq_true (by omega)) w
  · by_cases h2 : 7 < t
    · rw [show (Bt.switch ⟨ac, tr, gd, n, ls, va, vo⟩ t : BR) = .error 1 by simp [Bt.switch, h1, h2]]
      cases ac
      · exact tswitch_f_hi tr gd n ls va vo t hc (decide_eq_false (by omega)) (decide_eq_true (by omega)) w
      · exact tswitch_t_hi tr gd n ls va vo t hc (decide_eq_false (by omega)) (decide_eq_true (by omega)) w
    · by_cases h3 : tr = true
      · subst h3
        rw [show (Bt.switch ⟨ac, true, gd, n, ls, va, vo⟩ t : BR) = .error 211 by simp [Bt.switch, h1, h2]]
        cases ac
        · exact tswitch_f_tr gd n ls va vo t hc (decide_eq_false (by omega)) (decide_eq_false (by omega)) w
        · exact tswitch_t_tr gd n ls va vo t hc (decide_eq_false (by omega)) (decide_eq_false (by omega)) w
      · by_cases h4 : gd = false
        · obtain rfl : tr = false := by simpa using h3
          subst h4
          rw [show (Bt.switch ⟨ac, false, false, n, ls, va, vo⟩ t : BR) = .error 212 by simp [Bt.switch, h1, h2]]
          cases ac
          · exact tswitch_f_no n ls va vo t hc (decide_eq_false (by omega)) (decide_eq_false (by omega)) w
          · exact tswitch_t_no n ls va vo t hc (decide_eq_false (by omega)) (decide_eq_false (by omega)) w
        · by_cases h5 : vo < ls
          · obtain rfl : tr = false := by simpa using h3
            obtain rfl : gd = true := by simpa using h4
            rw [show (Bt.switch ⟨ac, false, true, n, ls, va, vo⟩ t : BR) = .error 210 by simp [Bt.switch, h1, h2, h5]]
            cases ac
            · exact tswitch_f_old n ls va vo t hc (decide_eq_false (by omega)) (decide_eq_false (by omega)) (decide_eq_true (by omega)) w
            · exact tswitch_t_old n ls va vo t hc (decide_eq_false (by omega)) (decide_eq_false (by omega)) (decide_eq_true (by omega)) w
          · obtain rfl : tr = false := by simpa using h3
            obtain rfl : gd = true := by simpa using h4
            obtain ⟨m, rfl⟩ : ∃ m : Nat, t = m := ⟨t.toNat, by omega⟩
            rw [show (Bt.switch ⟨ac, false, true, n, ls, va, vo⟩ m : BR) = .ok ⟨!ac, true, true, m, ls, vo, va⟩ by simp [Bt.switch, h1, h2, h5]]
            cases ac
            · exact tswitch_f_ok n ls va vo m hc (decide_eq_false (by omega)) (decide_eq_false (by omega)) (decide_eq_false (by omega)) w
            · exact tswitch_t_ok n ls va vo m hc (decide_eq_false (by omega)) (decide_eq_false (by omega)) (decide_eq_false (by omega)) w
theorem ract2_any (b : Bt) (h : b.Ok) (t : Int) (w : World) : Calls Tryz.prog 36 #[.agg b.V, .int .i64 2, .int .i64 t] w fun e w' => e = .returned ((b.switch t).V) ∧ Below w.heap.size w w' := by
  have hc := fun w => rcheck_any b h w
  obtain ⟨n7, l1, lM, a0, aM, oM, t0, t1⟩ := h
  obtain ⟨ac, tr, gd, n, ls, va, vo⟩ := b
  dsimp only at *
  by_cases h1 : t < 1
  · rw [show (Bt.switch ⟨ac, tr, gd, n, ls, va, vo⟩ t : BR) = .error 1 by simp [Bt.switch, h1]]
    cases ac
    · exact ract2_f_lo tr gd n ls va vo t hc (decide_eq_true (by omega)) w
    · exact ract2_t_lo tr gd n ls va vo t hc (decide_eq_true (by omega)) w
  · by_cases h2 : 7 < t
    · rw [show (Bt.switch ⟨ac, tr, gd, n, ls, va, vo⟩ t : BR) = .error 1 by simp [Bt.switch, h1, h2]]
      cases ac
      · exact ract2_f_hi tr gd n ls va vo t hc (decide_eq_false (by omega)) (decide_eq_true (by omega)) w
      · exact ract2_t_hi tr gd n ls va vo t hc (decide_eq_false (by omega)) (decide_eq_true (by omega)) w
    · by_cases h3 : tr = true
      · subst h3
        rw [show (Bt.switch ⟨ac, true, gd, n, ls, va, vo⟩ t : BR) = .error 211 by simp [Bt.switch, h1, h2]]
        cases ac
        · exact ract2_f_tr gd n ls va vo t hc (decide_eq_false (by omega)) (decide_eq_false (by omega)) w
        · exact ract2_t_tr gd n ls va vo t hc (decide_eq_false (by omega)) (decide_eq_false (by omega)) w
      · by_cases h4 : gd = false
        · obtain rfl : tr = false := by simpa using h3
          subst h4
          rw [show (Bt.switch ⟨ac, false, false, n, ls, va, vo⟩ t : BR) = .error 212 by simp [Bt.switch, h1, h2]]
          cases ac
          · exact ract2_f_no n ls va vo t hc (decide_eq_false (by omega)) (decide_eq_false (by omega)) w
          · exact ract2_t_no n ls va vo t hc (decide_eq_false (by omega)) (decide_eq_false (by omega)) w
        · by_cases h5 : vo < ls
          · obtain rfl : tr = false := by simpa using h3
            obtain rfl : gd = true := by simpa using h4
            rw [show (Bt.switch ⟨ac, false, true, n, ls, va, vo⟩ t : BR) = .error 210 by simp [Bt.switch, h1, h2, h5]]
            cases ac
            · exact ract2_f_old n ls va vo t hc (decide_eq_false (by omega)) (decide_eq_false (by omega)) (decide_eq_true (by omega)) w
            · exact ract2_t_old n ls va vo t hc (decide_eq_false (by omega)) (decide_eq_false (by omega)) (decide_eq_true (by omega)) w
          · obtain rfl : tr = false := by simpa using h3
            obtain rfl : gd = true := by simpa using h4
            obtain ⟨m, rfl⟩ : ∃ m : Nat, t = m := ⟨t.toNat, by omega⟩
            rw [show (Bt.switch ⟨ac, false, true, n, ls, va, vo⟩ m : BR) = .ok ⟨!ac, true, true, m, ls, vo, va⟩ by simp [Bt.switch, h1, h2, h5]]
            cases ac
            · exact ract2_f_ok n ls va vo m hc (decide_eq_false (by omega)) (decide_eq_false (by omega)) (decide_eq_false (by omega)) w
            · exact ract2_t_ok n ls va vo m hc (decide_eq_false (by omega)) (decide_eq_false (by omega)) (decide_eq_false (by omega)) w
theorem tconf_any (b : Bt) (h : b.Ok) (w : World) : Calls Tryz.prog 59 #[.agg b.V] w fun e w' => e = .returned (b.confirm.V) ∧ Below w.heap.size w w' := by
  have hc := fun w => tcheck_any b h w
  obtain ⟨n7, l1, lM, a0, aM, oM, t0, t1⟩ := h
  obtain ⟨ac, tr, gd, n, ls, va, vo⟩ := b
  dsimp only at *
  by_cases h1 : tr = true
  · by_cases h2 : ls < va
    · subst h1
      rw [show (Bt.confirm ⟨ac, true, gd, n, ls, va, vo⟩ : BR) = .ok ⟨ac, false, gd, 0, va, va, vo⟩ by simp [Bt.confirm, h2]]
      cases ac
      · exact tconf_f_up gd n ls va vo hc (by omega) w
      · exact tconf_t_up gd n ls va vo hc (by omega) w
    · subst h1
      rw [show (Bt.confirm ⟨ac, true, gd, n, ls, va, vo⟩ : BR) = .ok ⟨ac, false, gd, 0, ls, va, vo⟩ by simp [Bt.confirm, h2]]
      cases ac
      · exact tconf_f_st gd n ls va vo hc (by omega) w
      · exact tconf_t_st gd n ls va vo hc (by omega) w
  · obtain rfl : tr = false := by simpa using h1
    rw [show (Bt.confirm ⟨ac, false, gd, n, ls, va, vo⟩ : BR) = .error 211 by simp [Bt.confirm]]
    cases ac
    · exact tconf_f_no gd n ls va vo hc w
    · exact tconf_t_no gd n ls va vo hc w
theorem ract4_any (b : Bt) (h : b.Ok) (v : Int) (w : World) : Calls Tryz.prog 36 #[.agg b.V, .int .i64 4, .int .i64 v] w fun e w' => e = .returned (b.confirm.V) ∧ Below w.heap.size w w' := by
  have hc := fun w => rcheck_any b h w
  obtain ⟨n7, l1, lM, a0, aM, oM, t0, t1⟩ := h
  obtain ⟨ac, tr, gd, n, ls, va, vo⟩ := b
  dsimp only at *
  by_cases h1 : tr = true
  · by_cases h2 : ls < va
    · subst h1
      rw [show (Bt.confirm ⟨ac, true, gd, n, ls, va, vo⟩ : BR) = .ok ⟨ac, false, gd, 0, va, va, vo⟩ by simp [Bt.confirm, h2]]
      cases ac
      · exact ract4_f_up gd n ls va vo v hc (decide_eq_true (by omega)) w
      · exact ract4_t_up gd n ls va vo v hc (decide_eq_true (by omega)) w
    · subst h1
      rw [show (Bt.confirm ⟨ac, true, gd, n, ls, va, vo⟩ : BR) = .ok ⟨ac, false, gd, 0, ls, va, vo⟩ by simp [Bt.confirm, h2]]
      cases ac
      · exact ract4_f_st gd n ls va vo v hc (decide_eq_false (by omega)) w
      · exact ract4_t_st gd n ls va vo v hc (decide_eq_false (by omega)) w
  · obtain rfl : tr = false := by simpa using h1
    rw [show (Bt.confirm ⟨ac, false, gd, n, ls, va, vo⟩ : BR) = .error 211 by simp [Bt.confirm]]
    cases ac
    · exact ract4_f_no gd n ls va vo v hc w
    · exact ract4_t_no gd n ls va vo v hc w
theorem tstart_any (b : Bt) (h : b.Ok) (w : World) : Calls Tryz.prog 50 #[.agg b.V] w fun e w' => e = .returned (.tuple #[.int .i64 (if b.start.ac then 1 else 0), .agg b.start.V, .int .i64 0]) ∧ Below w.heap.size w w' := by
  have hc := fun w => tcheck_any b h w
  obtain ⟨n7, l1, lM, a0, aM, oM, t0, t1⟩ := h
  obtain ⟨ac, tr, gd, n, ls, va, vo⟩ := b
  dsimp only at *
  by_cases h1 : tr = true
  · by_cases h2 : n = 0
    · subst h1 h2
      obtain ⟨rfl, hl⟩ := t1 rfl
      rw [show (Bt.start ⟨ac, true, true, 0, ls, va, vo⟩) = ⟨!ac, false, false, 0, ls, vo, va⟩ by simp [Bt.start]]
      cases ac
      · exact tstart_f_last ls va vo true hc (fun w => tstate_f_last ls va vo true w) w
      · exact tstart_t_last ls va vo true hc (fun w => tstate_t_last ls va vo true w) w
    · subst h1
      obtain ⟨m, rfl⟩ : ∃ m, n = m + 1 := ⟨n - 1, by omega⟩
      have em : ((m + 1 : Nat) : Int) - 1 = (m : Int) := by omega
      rw [show (Bt.start ⟨ac, true, gd, m + 1, ls, va, vo⟩) = ⟨ac, true, gd, m, ls, va, vo⟩ by simp [Bt.start]]
      cases ac
      · have := tstart_f_trial ls va vo ((m + 1 : Nat) : Int) gd hc (fun w => tstate_f_trial ls va vo ((m + 1 : Nat) : Int) gd (beq_eq_false_iff_ne.2 (by omega)) w) (by omega) (by omega) w
        rw [em] at this
        exact this
      · have := tstart_t_trial ls va vo ((m + 1 : Nat) : Int) gd hc (fun w => tstate_t_trial ls va vo ((m + 1 : Nat) : Int) gd (beq_eq_false_iff_ne.2 (by omega)) w) (by omega) (by omega) w
        rw [em] at this
        exact this
  · by_cases h2 : gd = true
    · obtain rfl : tr = false := by simpa using h1
      subst h2
      rw [show (Bt.start ⟨ac, false, true, n, ls, va, vo⟩) = ⟨ac, false, true, n, ls, va, vo⟩ by simp [Bt.start]]
      cases ac
      · exact tstart_f_ready ls va vo n hc (fun w => tstate_f_ready ls va vo n w) w
      · exact tstart_t_ready ls va vo n hc (fun w => tstate_t_ready ls va vo n w) w
    · obtain rfl : tr = false := by simpa using h1
      obtain rfl : gd = false := by simpa using h2
      rw [show (Bt.start ⟨ac, false, false, n, ls, va, vo⟩) = ⟨ac, false, false, n, ls, va, vo⟩ by simp [Bt.start]]
      cases ac
      · exact tstart_f_plain ls va vo n hc (fun w => tstate_f_plain ls va vo n w) w
      · exact tstart_t_plain ls va vo n hc (fun w => tstate_t_plain ls va vo n w) w
theorem ract3_any (b : Bt) (h : b.Ok) (v : Int) (w : World) : Calls Tryz.prog 36 #[.agg b.V, .int .i64 3, .int .i64 v] w fun e w' => e = .returned (.tuple #[.agg b.start.V, .int .i64 0]) ∧ Below w.heap.size w w' := by
  have hc := fun w => rcheck_any b h w
  obtain ⟨n7, l1, lM, a0, aM, oM, t0, t1⟩ := h
  obtain ⟨ac, tr, gd, n, ls, va, vo⟩ := b
  dsimp only at *
  by_cases h1 : tr = true
  · by_cases h2 : n = 0
    · subst h1 h2
      obtain ⟨rfl, hl⟩ := t1 rfl
      rw [show (Bt.start ⟨ac, true, true, 0, ls, va, vo⟩) = ⟨!ac, false, false, 0, ls, vo, va⟩ by simp [Bt.start]]
      cases ac
      · exact ract3_f_last true ls va vo v hc (fun w => rstate_f_last ls va vo true w) (fun w => rstarted_f true ls va vo w) w
      · exact ract3_t_last true ls va vo v hc (fun w => rstate_t_last ls va vo true w) (fun w => rstarted_t true ls va vo w) w
    · subst h1
      obtain ⟨m, rfl⟩ : ∃ m, n = m + 1 := ⟨n - 1, by omega⟩
      have em : ((m + 1 : Nat) : Int) - 1 = (m : Int) := by omega
      rw [show (Bt.start ⟨ac, true, gd, m + 1, ls, va, vo⟩) = ⟨ac, true, gd, m, ls, va, vo⟩ by simp [Bt.start]]
      cases ac
      · have := ract3_f_trial ls va vo v ((m + 1 : Nat) : Int) gd hc (fun w => rstate_f_trial ls va vo ((m + 1 : Nat) : Int) gd (decide_eq_true (by omega)) w) (by omega) (by omega) w
        rw [em] at this
        exact this
      · have := ract3_t_trial ls va vo v ((m + 1 : Nat) : Int) gd hc (fun w => rstate_t_trial ls va vo ((m + 1 : Nat) : Int) gd (decide_eq_true (by omega)) w) (by omega) (by omega) w
        rw [em] at this
        exact this
  · by_cases h2 : gd = true
    · obtain rfl : tr = false := by simpa using h1
      subst h2
      rw [show (Bt.start ⟨ac, false, true, n, ls, va, vo⟩) = ⟨ac, false, true, n, ls, va, vo⟩ by simp [Bt.start]]
      cases ac
      · exact ract3_f_ready ls va vo v n hc (fun w => rstate_f_ready ls va vo n w) w
      · exact ract3_t_ready ls va vo v n hc (fun w => rstate_t_ready ls va vo n w) w
    · obtain rfl : tr = false := by simpa using h1
      obtain rfl : gd = false := by simpa using h2
      rw [show (Bt.start ⟨ac, false, false, n, ls, va, vo⟩) = ⟨ac, false, false, n, ls, va, vo⟩ by simp [Bt.start]]
      cases ac
      · exact ract3_f_plain ls va vo v n hc (fun w => rstate_f_plain ls va vo n w) w
      · exact ract3_t_plain ls va vo v n hc (fun w => rstate_t_plain ls va vo n w) w
end Go.Proofs.YticnmogeknlmeaaGreatDoor.B
