/- Helper: a plain picture, and what there is, go alike; plainly. No condition. -/
import Derived.Test.YticnmogeknlmeaaGreatDoorNZs
namespace Go.Proofs.YticnmogeknlmeaaGreatDoor.B
open Go.RowKit Go.Maps
/-- A plain picture of what there is. -/
structure Rl (P : Pl) (x : US) : Prop where
  pg : P.pg = x.pg
  b : P.b = x.b
  m : ∀ s, P.m s = (x.m s).getD man0
  im : P.im = x.im
  idle : x.pn = none → P.is = false ∧ P.got = []
  lim : P.p.n ≤ 1048576
  busy : ∀ m g, x.pn = some (m, g) → P.is = true ∧ P.p = m ∧ P.got = x.im (!x.b.ac)
theorem Rl.install {P : Pl} {x : US} (h : Rl P x) (l : List UInt8) : (P.install l).1 = (x.install l).1 ∧ Rl (P.install l).2 (x.install l).2 := by
  unfold Pl.install US.install
  cases hp : parseL l with
  | none => exact ⟨rfl, h⟩
  | some m =>
    simp only []
    rw [h.pg, h.b]
    by_cases h1 : 64 * x.pg < m.n
    · rw [if_pos h1, if_pos h1]
      exact ⟨rfl, h⟩
    · rw [if_neg h1, if_neg h1]
      cases hb : x.b.inst m.v with
      | error e => exact ⟨rfl, h⟩
      | ok b =>
        have hac : b.ac = x.b.ac := by
          unfold Bt.inst at hb
          by_cases h1 : x.b.tr = true
          · rw [if_pos h1] at hb; cases hb
          · rw [if_neg h1] at hb
            by_cases h2 : m.v < x.b.ls
            · rw [if_pos h2] at hb; cases hb
            · rw [if_neg h2] at hb
              by_cases h3 : 1073741824 < m.v
              · rw [if_pos h3] at hb; cases hb
              · rw [if_neg h3] at hb
                cases hb
                rfl
        refine ⟨rfl, by first | exact h.pg | rfl, rfl, h.m, ?_, fun e => (by cases e), (parse_ok hp).2.2.1, fun m' g' e => ?_⟩
        · show setB P.im _ [] = setB x.im _ []
          rw [h.im]
        · cases e
          refine ⟨rfl, rfl, ?_⟩
          show [] = setB x.im (!x.b.ac) [] (!b.ac)
          rw [hac, setB_same]
theorem Rl.chunk {P : Pl} {x : US} (h : Rl P x) (hI : x.Inv) (t : Int) (s : List UInt8) : (P.chunk t s).1 = (x.chunk t s).1 ∧ Rl (P.chunk t s).2 (x.chunk t s).2 := by
  unfold Pl.chunk US.chunk
  cases hp : x.pn with
  | none =>
    rw [if_pos (h.idle hp).1]
    exact ⟨rfl, h⟩
  | some y =>
    obtain ⟨m, g⟩ := y
    obtain ⟨e1, e2, e3⟩ := h.busy m g hp
    obtain ⟨i1, i2, i3, i4, i5⟩ := hI.inst m g hp
    have hg : P.got.length = g := by rw [e3, i1]
    rw [if_neg (by rw [e1]; decide), hg, e2]
    simp only []
    by_cases h1 : t ≠ (g : Int)
    · rw [if_pos h1, if_pos h1]
      exact ⟨rfl, h⟩
    · rw [if_neg h1, if_neg h1]
      have hiff : (s = [] ∨ m.n < g + s.length ∨ 256 < s.length ∨ (s.length % 64 ≠ 0 ∧ g + s.length ≠ m.n)) ↔ (s = [] ∨ m.n - g < s.length ∨ 256 < s.length ∨ (s.length % 64 ≠ 0 ∧ s.length < m.n - g)) := by
        by_cases a0 : s = []
        · exact ⟨fun _ => .inl a0, fun _ => .inl a0⟩
        · constructor
          · rintro (k | k | k | ⟨k, l⟩)
            · exact .inl k
            · exact .inr (.inl (by omega))
            · exact .inr (.inr (.inl k))
            · by_cases q : m.n - g < s.length
              · exact .inr (.inl q)
              · exact .inr (.inr (.inr ⟨k, by omega⟩))
          · rintro (k | k | k | ⟨k, l⟩)
            · exact .inl k
            · exact .inr (.inl (by omega))
            · exact .inr (.inr (.inl k))
            · exact .inr (.inr (.inr ⟨k, by omega⟩))
      by_cases hb : s = [] ∨ m.n - g < s.length ∨ 256 < s.length ∨ (s.length % 64 ≠ 0 ∧ s.length < m.n - g)
      · rw [if_pos hb, if_pos (hiff.2 hb)]
        exact ⟨rfl, h⟩
      · rw [if_neg hb, if_neg (fun k => hb (hiff.1 k))]
        refine ⟨rfl, h.pg, h.b, h.m, ?_, fun e => (by cases e), (by have k := h.lim; rw [e2] at k; exact k), fun m' g' e => ?_⟩
        · show setB P.im (!P.b.ac) (P.got ++ s) = setB x.im (!x.b.ac) (x.im (!x.b.ac) ++ s)
          rw [h.im, h.b, e3]
        · cases e
          refine ⟨e1, by first | exact e2 | rfl, ?_⟩
          show P.got ++ s = setB x.im (!x.b.ac) (x.im (!x.b.ac) ++ s) (!x.b.ac)
          rw [setB_same, e3]
theorem Rl.finalize {P : Pl} {x : US} (h : Rl P x) (hI : x.Inv) : P.finalize.1 = x.finalize.1 ∧ Rl P.finalize.2 x.finalize.2 := by
  unfold Pl.finalize US.finalize
  cases hp : x.pn with
  | none =>
    rw [if_pos (h.idle hp).1]
    exact ⟨rfl, h⟩
  | some y =>
    obtain ⟨m, g⟩ := y
    obtain ⟨e1, e2, e3⟩ := h.busy m g hp
    obtain ⟨i1, i2, i3, i4, i5⟩ := hI.inst m g hp
    have hg : P.got.length = g := by rw [e3, i1]
    rw [if_neg (by rw [e1]; decide), hg, e2]
    simp only []
    by_cases h1 : g = m.n
    · rw [if_neg (fun k => k h1), if_pos h1]
      unfold US.fin
      rw [e3, h.b]
      by_cases h2 : shaL (x.im (!x.b.ac)) = m.d
      · rw [if_neg (fun k => k h2), if_pos h2]
        cases hb : x.b.ready with
        | error e => exact ⟨rfl, h⟩
        | ok b =>
          refine ⟨rfl, h.pg, rfl, fun s => ?_, h.im, fun _ => ⟨rfl, rfl⟩, (by have k := h.lim; rw [e2] at k; exact k), fun m' g' e => (by cases e)⟩
          show setB P.m (!x.b.ac) m s = (setB x.m (!x.b.ac) (some m) s).getD man0
          unfold setB
          split
          · rfl
          · exact h.m s
      · rw [if_pos h2, if_neg h2]
        exact ⟨rfl, h⟩
    · rw [if_pos h1, if_neg h1]
      exact ⟨rfl, h⟩
/-- What else is kept, with nothing under way. -/
theorem Rl.keep {P : Pl} {x : US} (h : Rl P x) (b : Bt) (hn : x.pn = none ∨ b = x.b) : Rl { P with b := b } { x with b := b } := by
  refine ⟨h.pg, rfl, h.m, h.im, h.idle, h.lim, fun m g e => ?_⟩
  have e : x.pn = some (m, g) := e
  rcases hn with hn | rfl
  · rw [hn] at e; cases e
  · exact h.busy m g e
theorem Rl.switch {P : Pl} {x : US} (h : Rl P x) (hI : x.Inv) (t : Int) : P.b.switch t = x.b.switch t ∧ ∀ b, x.b.switch t = .ok b → Rl { P with b := b } (x.on (x.b.switch t)) := by
  refine ⟨by rw [h.b], fun b e => ?_⟩
  rw [e]
  refine h.keep b (.inl (hI.none (.inr ?_)))
  unfold Bt.switch at e
  by_cases h1 : t < 1
  · rw [if_pos h1] at e; cases e
  · rw [if_neg h1] at e
    by_cases h2 : 7 < t
    · rw [if_pos h2] at e; cases e
    · rw [if_neg h2] at e
      by_cases h3 : x.b.tr = true
      · rw [if_pos h3] at e; cases e
      · rw [if_neg h3] at e
        by_cases h4 : x.b.gd = false
        · rw [if_pos h4] at e; cases e
        · simpa using h4
theorem Rl.confirm {P : Pl} {x : US} (h : Rl P x) (hI : x.Inv) : P.b.confirm = x.b.confirm ∧ ∀ b, x.b.confirm = .ok b → Rl { P with b := b } (x.on x.b.confirm) := by
  refine ⟨by rw [h.b], fun b e => ?_⟩
  rw [e]
  refine h.keep b (.inl (hI.none (.inl ?_)))
  unfold Bt.confirm at e
  by_cases h3 : x.b.tr = true
  · exact h3
  · rw [if_neg h3] at e; cases e
theorem Rl.start {P : Pl} {x : US} (h : Rl P x) (hI : x.Inv) : P.b.start = x.b.start ∧ Rl { P with b := x.b.start } { x with b := x.b.start } := by
  refine ⟨by rw [h.b], h.keep _ ?_⟩
  by_cases h3 : x.b.tr = true
  · exact .inl (hI.none (.inl h3))
  · refine .inr ?_
    unfold Bt.start
    rw [if_neg h3]
theorem Rl.got {P : Pl} {x : US} (h : Rl P x) (hI : x.Inv) : P.got.length ≤ 64 * x.pg := by
  cases hp : x.pn with
  | none => rw [(h.idle hp).2]; exact Nat.zero_le _
  | some y => rw [(h.busy y.1 y.2 hp).2.2]; exact hI.ok.im _
theorem US.pg_chunk (x : US) (t : Int) (s : List UInt8) : (x.chunk t s).2.pg = x.pg := by
  unfold US.chunk
  split
  · rfl
  · split
    · rfl
    · split <;> rfl
theorem US.pg_finalize (x : US) : x.finalize.2.pg = x.pg := by
  unfold US.finalize US.fin
  split
  · rfl
  · split
    · split
      · split <;> rfl
      · rfl
    · rfl
theorem US.pg_on (x : US) (r : BR) : (x.on r).pg = x.pg := by
  unfold US.on
  split <;> rfl
end Go.Proofs.YticnmogeknlmeaaGreatDoor.B
