/- Helper: the next bytes of an image come; walked. a plain device and an updater made; a device without slots; walked. a device is given two slots; walked. No condition. -/
import Derived.Test.YticnmogeknlmeaaGreatDoorN28
import Derived.Test.YticnmogeknlmeaaGreatDoorN14
namespace Go.Proofs.YticnmogeknlmeaaGreatDoor.B
open Go.RowKit Go.Maps Go.Proofs.YticnmogeknlmeaaGreatDoorW.PrintWords Go.Proofs.YticnmogeknlmeaaGreatDoor.Later
set_option maxRecDepth 100000
set_option maxHeartbeats 4000000
theorem uchunk_none {w : World} {u a : Nat} {x : US} (h : UsAt w u a x) (hx : x.Ok) (hp : x.pn = none) (t : Int) (s : List UInt8) (a0 a2 a3 a4 a5 : Int) (a1 a6 a7 : Bool) (hV : x.b.V = #[.int .i64 a0, .bool a1, .int .i64 a2, .int .i64 a3, .int .i64 a4, .int .i64 a5, .bool a6, .bool a7]) : Calls Tryz.prog 16 #[.pointer (some ⟨u, 0, none⟩), .int .i64 t, .string (bs s)] w fun e w' => e = .returned (.int .i64 224) ∧ Below w.heap.size w w' := by
  have hb := boot_any h hx.b
  rw [hV] at hb
  have H := Lib.hid h
  have Hb := Lib.hid hb
  have Hp := Lib.hid (fun W (hW : UsAt W u a x) => uprog_none hW hp)
  clear h hb hV hp
  go_enter Tryz.func16, Tryz.ntmps16
  go_wp2_with fail
  refine Hb.out.mono ?_
  rintro e w1 ⟨rfl, hB⟩
  have HB1 := Lib.hid hB
  have H1 := Lib.hid (H.out.below hB)
  clear hB
  go_wp2_with fail
  refine (Hp.out _ (H1.out.below ((Below.refl _ _).alloc (Nat.le_refl _) _))).mono ?_
  rintro e w2 ⟨rfl, hB⟩
  obtain ⟨hB, k3⟩ := laid hB
  have HB2 := Lib.hid (HB1.out.trans (hB.mono HB1.out.size))
  clear hB k3
  go_wp2_with fail
  go_ret
  exact ⟨rfl, HB2.out.alloc HB2.out.size _⟩
theorem Mut.then_below {S : Nat → Prop} {w w1 w2 : World} (h : Mut S w w1) (hb : Below w.heap.size w1 w2) : Mut S w w2 :=
  ⟨hb.os.trans h.os, hb.tape.trans h.tape, hb.output.trans h.output, Nat.le_trans h.size hb.size, fun i hi hs => (hb.block i hi).trans (h.block i hi hs)⟩
theorem UsAt.mut1 {w w' : World} {u a g : Nat} {x : US} {cs : Array Value} {t : TypeId} (h : UsAt w u a x) (hm : Mut (only g) w w') (hg : Blk w g cs t) (hu : u ≠ g) (ha : a ≠ g) : UsAt w' u a x := by
  have hS : ∀ i, only g i → ∀ es cl, w.heap[i]? ≠ some (.map es cl) := fun i hi es cl e => by
    obtain rfl := hi
    rw [Blk] at hg
    rw [hg] at e
    cases e
  obtain ⟨M, h1, ⟨np, oo, n, k1, k2, k3, k4, k5⟩, h3⟩ := h
  refine ⟨M, Blk.kept h1 hm hu, ⟨np, oo, n, Blk.kept k1 hm ha, k2.cellsMut hm hS, k3, ?_, k5⟩, h3⟩
  have ho := h3.opn
  rw [ho] at k4 ⊢
  exact k4
theorem uchunk_some {w : World} {u a : Nat} {x : US} (h : UsAt w u a x) (hx : x.Ok) {m : Man} {g : Nat} (hp : x.pn = some (m, g)) (hgm : g ≤ m.n) (him : (x.im (!x.b.ac)).length = g) (hmp : m.n ≤ 64 * x.pg) (hg64 : g % 64 = 0 ∨ g = m.n) (t : Int) (s : List UInt8) (hsl : s.length < 1000000) (a0 a2 a3 a4 a5 : Int) (a1 a6 a7 : Bool) (hV : x.b.V = #[.int .i64 a0, .bool a1, .int .i64 a2, .int .i64 a3, .int .i64 a4, .int .i64 a5, .bool a6, .bool a7]) (ha : 2 - a0 = sid (!x.b.ac)) : Calls Tryz.prog 16 #[.pointer (some ⟨u, 0, none⟩), .int .i64 t, .string (bs s)] w fun e w' => e = .returned (.int .i64 (x.chunk t s).1) ∧ UsAt w' u a (x.chunk t s).2 ∧ Mut (only a) w w' := by
  have hal := h.al
  have hb := boot_any h hx.b
  rw [hV] at hb
  have hok := hx.pn m g hp
  have hsz := bs_size s
  obtain ⟨X, hX⟩ : ∃ X, X = x.chunk t s := ⟨_, rfl⟩
  have hXX : X = if t ≠ g then (221, x) else if s = [] ∨ m.n - g < s.length ∨ 256 < s.length ∨ (s.length % 64 ≠ 0 ∧ s.length < m.n - g) then (222, x) else (0, { x with im := setB x.im (!x.b.ac) (x.im (!x.b.ac) ++ s), pn := some (m, g + s.length) }) := by rw [hX, US.chunk, hp]
  rw [← hX]
  have H := Lib.hid h
  have Hb := Lib.hid hb
  have Hp := Lib.hid (fun W (hW : UsAt W u a x) => uprog_some hW hp hok.1 hok.2)
  have HX := Lib.hid hXX
  have Hx := Lib.hid hx
  have Ha := Lib.hid ha
  have HAL := Lib.hid hal
  have Hmo := Lib.hid hok.1
  have him' := Lib.hid him
  have Hg64 := Lib.hid hg64
  have hm20 : m.n ≤ 1048576 := hok.1.2.2.1
  have h01 : 1 ≤ 2 - a0 ∧ 2 - a0 ≤ 2 := by rw [ha]; exact sid_in _
  have hemp := bs_isnil s
  clear h hb hV hX hXX hx ha hal hp hok him hg64
  go_enter Tryz.func16, Tryz.ntmps16
  go_wp2_with fail
  refine Hb.out.mono ?_
  rintro e w1 ⟨rfl, hB⟩
  have HB1 := Lib.hid hB
  have H1 := Lib.hid (H.out.below hB)
  clear hB
  go_wp2_with fail
  refine (Hp.out _ (H1.out.below ((Below.refl _ _).alloc (Nat.le_refl _) _))).mono ?_
  rintro e w2 ⟨rfl, hB⟩
  obtain ⟨hB, k3⟩ := laid hB
  have HB2 := Lib.hid (HB1.out.trans (hB.mono HB1.out.size))
  have H2 := Lib.hid (H1.out.below hB)
  have K7 := Lib.hid k3
  have hl3 : w1.heap.size < w2.heap.size := Blk.lt k3
  have hl1 := HB1.out.size
  clear hB k3
  obtain ⟨g7, hg7⟩ : ∃ g7, g7 = w1.heap.size := ⟨_, rfl⟩
  rw [← hg7] at K7 hl3 hl1 ⊢
  clear hg7
  have hba : Below w2.heap.size w2 (w2.alloc (.cells #[.int .i64 (m.v : Int), .int .i64 (m.n : Int), .string (bs m.d), .int .i64 (g : Int)] 71)) := (Below.refl _ _).alloc (Nat.le_refl _) _
  have HBa := Lib.hid hba
  have u2 : (w2.alloc (.cells #[.int .i64 (m.v : Int), .int .i64 (m.n : Int), .string (bs m.d), .int .i64 (g : Int)] 71)).cell? ⟨u, 2, none⟩ = some (.int .i64 64) := (H2.out.below hba).c2
  clear hba
  have hbf := Lib.hid (HB2.out.alloc HB2.out.size (.cells #[.int .i64 (m.v : Int), .int .i64 (m.n : Int), .string (bs m.d), .int .i64 (g : Int)] 71))
  by_cases ht : t = g
  case neg =>
    have hne : (t != (g : Int)) = true := bne_iff_ne.2 ht
    have hy : X = (221, x) := by rw [HX.out, if_pos ht]
    have HY := Lib.hid hy
    clear hy
    go_wp2_with fail
    go_ret
    rw [HY.out]
    exact ⟨rfl, H.out.below hbf.out, Mut.of_below hbf.out⟩
  case pos =>
    subst ht
    have hx1 := HX.out
    rw [if_neg (by simp)] at hx1
    have hne : ((g : Int) != (g : Int)) = false := by simp
    have bad : (s = [] ∨ m.n - g < s.length ∨ 256 < s.length ∨ (s.length % 64 ≠ 0 ∧ s.length < m.n - g)) → X = (222, x) := fun k => by rw [hx1, if_pos k]
    have Hbad := Lib.hid bad
    have Hx1 := Lib.hid hx1
    clear bad hx1
    by_cases h0 : s = []
    · have HY := Lib.hid (Hbad.out (.inl h0))
      subst h0
      have hemp : (bs []).toList.isEmpty = true := by rw [hemp]; rfl
      have hsz : (bs []).size = 0 := hsz
      go_wp2_with fail
      go_ret
      rw [HY.out]
      exact ⟨rfl, H.out.below hbf.out, Mut.of_below hbf.out⟩
    · rw [decide_eq_false h0] at hemp
      have hl0 : 0 < s.length := List.length_pos_iff.2 h0
      by_cases h1 : m.n - g < s.length
      · have HY := Lib.hid (Hbad.out (.inr (.inl h1)))
        have e1 : decide ((m.n : Int) - (g : Int) < (s.length : Int)) = true := decide_eq_true (by omega)
        go_wp2_with fail
        go_ret
        rw [HY.out]
        exact ⟨rfl, H.out.below hbf.out, Mut.of_below hbf.out⟩
      · have e1 : decide ((m.n : Int) - (g : Int) < (s.length : Int)) = false := decide_eq_false (by omega)
        by_cases h2 : 256 < s.length
        · have HY := Lib.hid (Hbad.out (.inr (.inr (.inl h2))))
          have e2 : decide ((256 : Int) < (s.length : Int)) = true := decide_eq_true (by omega)
          go_wp2_with fail
          go_ret
          rw [HY.out]
          exact ⟨rfl, H.out.below hbf.out, Mut.of_below hbf.out⟩
        · have e2 : decide ((256 : Int) < (s.length : Int)) = false := decide_eq_false (by omega)
          by_cases h3 : s.length % 64 ≠ 0 ∧ s.length < m.n - g
          · have HY := Lib.hid (Hbad.out (.inr (.inr (.inr h3))))
            have e3 : decide ((0 : Int) < (s.length : Int) % 64) = true := decide_eq_true (by omega)
            have e4 : decide ((s.length : Int) < (m.n : Int) - (g : Int)) = true := decide_eq_true (by omega)
            go_wp2_with fail
            go_ret
            rw [HY.out]
            exact ⟨rfl, H.out.below hbf.out, Mut.of_below hbf.out⟩
          · have hle : s.length ≤ m.n - g := by omega
            have hok1 : ¬ (s = [] ∨ m.n - g < s.length ∨ 256 < s.length ∨ (s.length % 64 ≠ 0 ∧ s.length < m.n - g)) := by
              rintro (k | k | k | k)
              · exact h0 k
              · exact h1 k
              · exact h2 k
              · exact h3 k
            have hY := Hx1.out
            rw [if_neg hok1] at hY
            have HY := Lib.hid hY
            have hgk : g = 64 * (g / 64) := by rcases Hg64.out with k | k <;> omega
            have hn5 : nP s ≤ 4 := by unfold nP; omega
            have hnlo : s.length ≤ 64 * nP s := by unfold nP; omega
            have hnhi : ∀ j, j < nP s → 64 * j < s.length := fun j hj => by unfold nP at hj; omega
            have Hnlo := Lib.hid hnlo
            have Hnhi := Lib.hid hnhi
            have He34 : decide ((0 : Int) < (s.length : Int) % 64) = false ∨ (decide ((0 : Int) < (s.length : Int) % 64) = true ∧ decide ((s.length : Int) < (m.n : Int) - (g : Int)) = false) := by
              by_cases h4 : s.length % 64 = 0
              · exact .inl (decide_eq_false (by omega))
              · exact .inr ⟨decide_eq_true (by omega), decide_eq_false (by omega)⟩
            obtain ⟨k, hk⟩ : ∃ k, k = g / 64 := ⟨_, rfl⟩
            rw [← hk] at hgk
            have Hgk := Lib.hid hgk
            have Hh0 := Lib.hid h0
            have Hle := Lib.hid hle
            clear hk hgk hok1 hY h0 h1 h2 h3 hnlo hnhi hle
            rcases He34 with e3 | ⟨e3, e4⟩
            all_goals
              go_wp2_with fail
              have k9 := Blk.new w2 #[.int .i64 (m.v : Int), .int .i64 (m.n : Int), .string (bs m.d), .int .i64 (g : Int)] 71
              have k7 := K7.out.below HBa.out
              have hU := H2.out.below HBa.out
              have hbl := hbf.out
              obtain ⟨g9, hg9⟩ : ∃ g9, g9 = w2.heap.size := ⟨_, rfl⟩
              have hl9 := hl3
              rw [← hg9] at k9 hl9 ⊢
              have hwl0 : (w2.alloc (.cells #[.int .i64 (m.v : Int), .int .i64 (m.n : Int), .string (bs m.d), .int .i64 (g : Int)] 71)).heap.size = g9 + 1 := by simp [hg9]
              obtain ⟨wl, hwl⟩ : ∃ wl, wl = w2.alloc (.cells #[.int .i64 (m.v : Int), .int .i64 (m.n : Int), .string (bs m.d), .int .i64 (g : Int)] 71) := ⟨_, rfl⟩
              rw [← hwl] at k9 k7 hU hbl hwl0 ⊢
              have K9 := Lib.hid k9
              have K7l := Lib.hid k7
              have HU := Lib.hid hU
              have HBl := Lib.hid hbl
              clear k9 k7 hU hbl hwl hg9 u2 hemp hne e1 e2
              clear e3
              go_loopg [11, 12] (nP s) (fun g' v y wx => ∃ j : Nat, j + g' = nP s ∧ y = .int .i64 ((64 * j : Nat) : Int) ∧ ChR wx wl.heap.size v (rowsP (sid (!x.b.ac)) (x.im (!x.b.ac) ++ s) k j) ∧ Below wl.heap.size wl wx)
              case atStart => exact ⟨0, by omega, rfl, ChR.nil _ _, Below.refl _ _⟩
              case round =>
                obtain ⟨j, hj, rfl, hR, hB⟩ := hrel
                have HR := Lib.hid hR
                have HB := Lib.hid hB
                have HUx := Lib.hid (HU.out.below hB)
                have k7 := K7l.out.below hB
                have k9 := K9.out.below hB
                have c0 : wr.cell? ⟨g7, 0, none⟩ = some (.int .i64 a0) := k7.cell 0
                have u2 := HUx.out.c2
                clear hR hB k7
                obtain ⟨q, hq⟩ : ∃ q, q = 64 * j := ⟨_, rfl⟩
                have Hq := Lib.hid hq
                rw [← hq]
                have hq1 : q ≤ 256 := by omega
                cases gk with
                | zero =>
                  obtain rfl : j = nP s := by omega
                  have hd : ¬ q < s.length := by have := Hnlo.out; omega
                  clear hq
                  have x0 : wr.cell? ⟨g9, 0, none⟩ = some (.int .i64 (m.v : Int)) := k9.cell 0
                  have x1 : wr.cell? ⟨g9, 1, none⟩ = some (.int .i64 (m.n : Int)) := k9.cell 1
                  have x2 : wr.cell? ⟨g9, 2, none⟩ = some (.string (bs m.d)) := k9.cell 2
                  have x3 : wr.cell? ⟨g9, 3, none⟩ = some (.int .i64 (g : Int)) := k9.cell 3
                  have ff := fun i => Blk.free k9 i
                  have Hprog := Lib.hid (show ∀ W', Calls Tryz.prog 43 #[.agg #[.int .i64 (m.v : Int), .int .i64 (m.n : Int), .string (bs m.d), .int .i64 ((g : Int) + (s.length : Int))]] W' fun e w' => e = .returned (.agg #[.int .i64 1, .int .i64 3, .int .i64 3, .int .i64 0, .int .i64 0, .int .i64 0, .string (bs (manB m ++ numL (g + s.length)))]) ∧ Below W'.heap.size W' w' from fun W' => by
                    have := prog_c m Hmo.out (g + s.length) (by have := Hle.out; omega) W'
                    rw [show ((g + s.length : Nat) : Int) = (g : Int) + (s.length : Int) by omega] at this
                    exact this)
                  have hset := Lib.hid (((Mut.of_below (S := only g9) HB.out).set (p := ⟨g9, 3, none⟩) rfl (.int .i64 ((g : Int) + (s.length : Int)))))
                  obtain ⟨LL, hLL⟩ : ∃ L, L = rowsP (sid (!x.b.ac)) (x.im (!x.b.ac) ++ s) k (nP s) ++ [putCh 3 3 (manB m ++ numL (g + s.length))] := ⟨_, rfl⟩
                  have HLL := Lib.hid hLL
                  have Hlen := Lib.hid (show LL.length ≤ 100 by rw [hLL, List.length_append, rowsP_len]; simp; omega)
                  have hrl := rowsP_len (sid (!x.b.ac)) (x.im (!x.b.ac) ++ s) k (nP s)
                  have HR1 := Lib.hid (HR.out.kept (((Mut.refl (only g9) wr).set (p := ⟨g9, 3, none⟩) rfl (.int .i64 ((g : Int) + (s.length : Int))))) (fun kk hk e => by have e : kk = g9 := e; have := (HR.out.base hk).1; omega))
                  obtain ⟨RL, hRL⟩ : ∃ R, R = rowsP (sid (!x.b.ac)) (x.im (!x.b.ac) ++ s) k (nP s) := ⟨_, rfl⟩
                  rw [← hRL] at hLL HR1 hrl HLL
                  have HRL := Lib.hid hRL
                  have Hrl := Lib.hid hrl
                  have K9r := Lib.hid k9
                  clear hLL k9 hRL hrl
                  go_wp2_with fail
                  refine (Hprog.out _).mono ?_
                  rintro e w5 ⟨rfl, hB5⟩
                  have hsw : (wr.setCell ⟨g9, 3, none⟩ (.int .i64 ((g : Int) + (s.length : Int)))).heap.size = wr.heap.size := by simp [World.setCell]
                  have hwlr := HB.out.size
                  have HR5 := Lib.hid (HR1.out.below hB5)
                  have HB5 := Lib.hid (hB5.mono (show wl.heap.size ≤ (wr.setCell ⟨g9, 3, none⟩ (.int .i64 ((g : Int) + (s.length : Int)))).heap.size by omega))
                  have Hset5 := Lib.hid (hset.out.then_below HB5.out)
                  have hs5 : wl.heap.size ≤ w5.heap.size := by have := hB5.size; omega
                  clear hB5 hsw x0 x1 x2 x3 ff
                  go_wp2_with (first
                    | (at_builtin; (refine append_ch (w0 := wr.setCell ⟨g9, 3, none⟩ (.int .i64 ((g : Int) + (s.length : Int)))) wl.heap.size rfl (.tmp 120) (.tmp 123) rfl _ RL (putCh 3 3 (manB m ++ numL (g + s.length))) rfl rfl HR5.out HB5.out ?s1 ?l1 ?_); (case s1 => exact hs5); (case l1 => (have := Hrl.out; omega)); intro v1 w6 hR6 hB6; rw [← HLL.out] at hR6; obtain ⟨A, c, rfl, hC, hA⟩ := hR6.reads; have HC := Lib.hid hC; have HA := Lib.hid hA; have HB6 := Lib.hid hB6; clear hR6 hC hA hB6))
                  have hm6 := hset.out.then_below HB6.out
                  have hul := HU.out.ul
                  have hU6 : UsAt w6 u a x := by
                    have hug : u ≠ g9 := fun e => by
                      have h1 := H.out.ul
                      have h2 := HB1.out.size
                      omega
                    have hag : a ≠ g9 := fun e => by
                      have h1 := HAL.out
                      have h2 := HB1.out.size
                      omega
                    exact HU.out.mut1 hm6 K9.out hug hag
                  have hB7 : Below w.heap.size w w6 := hm6.over HBl.out (by have h2 := HB1.out.size; omega)
                  refine (all_us2 (x' := { x with im := setB x.im (!x.b.ac) (x.im (!x.b.ac) ++ s), pn := some (m, g + s.length) }) hU6 Hx.out rfl (l := LL) (by have := Hlen.out; omega) (fun M hl hm => ?_) HC.out (fun ad e => by have h1 := HA.out ad e; have h2 := HAL.out; have h3 := HBl.out.size; omega)).mono ?_
                  · rw [HLL.out, HRL.out]
                    have s1 := step_rows hl (!x.b.ac) (t := s) (k := k) (n := nP s) (by rw [him'.out]; exact Hgk.out) (by unfold nP; rw [List.length_append, him'.out]; have := Hgk.out; omega) (by rw [List.length_append, him'.out]; have := Hle.out; omega) (by omega)
                    exact ⟨_, s1.trans (fun M1 h1 e1 => step_new h1 (by omega) Hmo.out (g := g + s.length) (by have := Hle.out; omega))⟩
                  · rintro e w7 ⟨rfl, hU7, hm7⟩
                    have HU7 := Lib.hid hU7
                    have HM7 := Lib.hid ((Mut.of_below (S := only a) hB7).trans hm7)
                    clear hU7 hm7 hU6 hB7 hm6
                    go_wp2_with fail
                    go_ret
                    rw [HY.out]
                    exact ⟨rfl, HU7.out, HM7.out⟩
                | succ g' =>
                  have hjl : j < nP s := by omega
                  have hqs : q < s.length := by have := Hnhi.out j hjl; omega
                  have hd : decide ((q : Int) < (s.length : Int)) = true := decide_eq_true (by omega)
                  have hp : ((g : Int) + (q : Int)) / 64 = ((k + j : Nat) : Int) := by have := Hgk.out; omega
                  have hP : pageOf (x.im (!x.b.ac) ++ s) (k + j) = (s.drop q).take 64 := by
                    unfold pageOf
                    rw [show 64 * (k + j) = g + q by have := Hgk.out; omega, ← him'.out, List.drop_append, List.drop_eq_nil_of_le (by omega), List.nil_append, Nat.add_sub_cancel_left]
                  obtain ⟨p, hpp⟩ : ∃ p, p = k + j := ⟨_, rfl⟩
                  rw [← hpp] at hp hP
                  have Hpp := Lib.hid hpp
                  have hx : (bs s).extract q (min ((q : Int) + 64) (s.length : Int)).toNat = bs (pageOf (x.im (!x.b.ac) ++ s) p) := by
                    by_cases h6 : q + 64 ≤ s.length
                    · rw [show (min ((q : Int) + 64) (s.length : Int)).toNat = q + 64 by omega, bs_extract, hP, List.take_drop]
                    · rw [show (min ((q : Int) + 64) (s.length : Int)).toNat = s.length by omega, bs_extract, hP, List.take_of_length_le (Nat.le_refl _), List.take_of_length_le (by rw [List.length_drop]; omega)]
                  obtain ⟨P, hPP⟩ : ∃ P, P = pageOf (x.im (!x.b.ac) ++ s) p := ⟨_, rfl⟩
                  rw [← hPP] at hx
                  have Hput := Lib.hid (show ∀ W, Calls Tryz.prog 41 #[.int .i64 (2 - a0), .int .i64 (p : Int), .string ((bs s).extract q (min ((q : Int) + 64) (s.length : Int)).toNat)] W fun e w' => e = .returned (.agg #[.int .i64 1, .int .i64 (2 - a0), .int .i64 (p : Int), .int .i64 0, .int .i64 0, .int .i64 0, .string (bs P)]) ∧ Below W.heap.size W w' from fun W => by rw [hx]; exact put_c (2 - a0) (p : Int) P W)
                  have HPP := Lib.hid hPP
                  have k0 := fun n => later_cell c0 n
                  have k2 := fun n => later_cell u2 n
                  clear hq k9 hpp hP hPP c0 u2 hx
                  all_goals
                    go_wp2_with fail
                    refine wp_region_later_skip _ 24 (by kernel_rfl) (by kernel_rfl) (by decide) (by kernel_rfl) (by kernel_rfl) (by kernel_rfl) (by kernel_rfl) (by kernel_rfl) (fun _ _ _ h => h) (Or.inl ⟨by rfl, fun W => rfl⟩) ?_
                    simp only [List.take_succ_cons, List.take_zero, List.drop_succ_cons, List.drop_zero, Act.put, List.setIfInBounds_toArray, List.set_cons_zero, List.set_cons_succ]
                    repeat go_big_quiet_step (fail)
                    go_big_quiet_step (with_reducible exact calls_later (fun w1 _ => Hput.out w1) _)
                    repeat go_big_quiet_step (fail)
                    refine wpQuiet_nil ?_
                    intro w5 hw5
                    have hb5 := later_of hw5
                    have HR5 := Lib.hid (HR.out.below hb5)
                    have HB5 := Lib.hid (HB.out.trans (hb5.mono HB.out.size))
                    clear hw5 hb5 k0 k2
                    go_wp2_with (first
                      | (at_builtin; (refine append_ch (w0 := wl) wl.heap.size rfl (.tmp 86) (.tmp 111) rfl _ (rowsP (sid (!x.b.ac)) (x.im (!x.b.ac) ++ s) k j) (putCh (2 - a0) (p : Int) P) rfl rfl HR5.out HB5.out ?s1 ?l1 ?_); (case s1 => exact HB5.out.size); (case l1 => (rw [rowsP_len]; omega)); intro v1 w6 hR6 hB6; have HR6 := Lib.hid hR6; have HB6 := Lib.hid hB6; have u2w := (HU.out.below hB6).c2; clear hR6 hB6))
                    go_roundg g'
                    case measure => omega
                    case rel =>
                      refine ⟨j + 1, by omega, by rw [show 64 * (j + 1) = q + 64 by have := Hq.out; omega]; go_num, ?_, HB6.out⟩
                      have h8 := HR6.out
                      rw [HPP.out, Hpp.out, Ha.out] at h8
                      rw [rowsP_snoc]
                      exact h8
/-- What holds while an image comes: of whole pages. -/
def US.Whole (x : US) : Prop := ∀ m g, x.pn = some (m, g) → g % 64 = 0 ∨ g = m.n
theorem uchunk_any {w : World} {u a : Nat} {x : US} (h : UsAt w u a x) (hx : x.Ok) (hI : x.Inst) (hW : x.Whole) (t : Int) (s : List UInt8) (hsl : s.length < 1000000) : Calls Tryz.prog 16 #[.pointer (some ⟨u, 0, none⟩), .int .i64 t, .string (bs s)] w fun e w' => e = .returned (.int .i64 (x.chunk t s).1) ∧ UsAt w' u a (x.chunk t s).2 ∧ Mut (only a) w w' := by
  obtain ⟨a0, a2, a3, a4, a5, a1, a6, a7, hV, h0⟩ := x.b.V8
  cases hp : x.pn with
  | none =>
    rw [show x.chunk t s = (224, x) by rw [US.chunk, hp]]
    refine (uchunk_none h hx hp t s a0 a2 a3 a4 a5 a1 a6 a7 hV).mono ?_
    rintro e w' ⟨rfl, hB⟩
    exact ⟨rfl, h.below hB, Mut.of_below hB⟩
  | some y =>
    obtain ⟨m, g⟩ := y
    obtain ⟨i1, i2, i3, _, _⟩ := hI m g hp
    exact uchunk_some h hx hp i2 i1 i3 (hW m g hp) t s hsl a0 a2 a3 a4 a5 a1 a6 a7 hV (by rw [h0]; cases x.b.ac <;> rfl)
end Go.Proofs.YticnmogeknlmeaaGreatDoor.B
namespace Go.Proofs.YticnmogeknlmeaaGreatDoor.B
open Go.RowKit Go.Maps Go.Proofs.YticnmogeknlmeaaGreatDoorW.PrintWords Go.Proofs.YticnmogeknlmeaaGreatDoor.Later
set_option maxRecDepth 100000
set_option maxHeartbeats 1600000
theorem unew_ok (a : Nat) (pg size : Int) (h1 : 1 ≤ pg) (h2 : pg ≤ 1024) (h3 : 64 ≤ size) (h4 : size ≤ 256) (w : World) : Calls Tryz.prog 22 #[.iface 25 (.pointer (some ⟨a, 0, none⟩)), .int .i64 pg, .int .i64 size] w fun e w' => e = .returned (.tuple #[.pointer (some ⟨w.heap.size, 0, none⟩), .int .i64 0]) ∧ UpAt w' w.heap.size a pg size ∧ Below w.heap.size w w' := by
  have d1 : decide (pg < 1) = false := decide_eq_false (by omega)
  have d2 : decide (1024 < pg) = false := decide_eq_false (by omega)
  have d3 : decide (size < 64) = false := decide_eq_false (by omega)
  have d4 : decide (256 < size) = false := decide_eq_false (by omega)
  go_enter Tryz.func22, Tryz.ntmps22
  go_wp2_with fail
  go_ret2
  exact ⟨rfl, Blk.new w _ 97, (Below.refl _ _).alloc (Nat.le_refl _) _⟩
end Go.Proofs.YticnmogeknlmeaaGreatDoor.B
namespace Go.Proofs.YticnmogeknlmeaaGreatDoor.B
open Go.RowKit Go.Maps Go.Proofs.YticnmogeknlmeaaGreatDoorW.PrintWords Go.Proofs.YticnmogeknlmeaaGreatDoor.Later
set_option maxRecDepth 100000
set_option maxHeartbeats 4000000
/-- The updater, and a plain device that holds a tree. -/
def TAt (w : World) (u a pg : Nat) (T : Tree) : Prop := ∃ M, UpAt w u a pg 64 ∧ MdAt w a M ∧ (M.now = T ∧ M.opn = none ∧ 2 * (pg : Int) + 4 ≤ M.pl ∧ 2 * (pg : Int) + 4 ≤ M.ks ∧ M.size = 64) ∧ Tri pg T ∧ pg ≤ 1024
theorem TAt.below {w w' : World} {u a pg : Nat} {T : Tree} (h : TAt w u a pg T) (hb : Below w.heap.size w w') : TAt w' u a pg T := by
  obtain ⟨M, h1, h2, h3⟩ := h
  exact ⟨M, Blk.below h1 hb, h2.below hb, h3⟩
theorem TAt.c1 {w : World} {u a pg : Nat} {T : Tree} (h : TAt w u a pg T) : w.cell? ⟨u, 1, none⟩ = some (.int .i64 (pg : Int)) := by
  obtain ⟨M, h1, _⟩ := h
  exact Blk.cell h1 1
theorem TAt.c2 {w : World} {u a pg : Nat} {T : Tree} (h : TAt w u a pg T) : w.cell? ⟨u, 2, none⟩ = some (.int .i64 64) := by
  obtain ⟨M, h1, _⟩ := h
  exact Blk.cell h1 2
theorem TAt.al {w : World} {u a pg : Nat} {T : Tree} (h : TAt w u a pg T) : a < w.heap.size := by
  obtain ⟨M, _, h2, _⟩ := h
  obtain ⟨np, oo, n, hb, _⟩ := h2
  exact hb.lt
theorem TAt.us {w : World} {u a : Nat} {x : US} (h : TAt w u a x.pg x.tree) : UsAt w u a x := by
  obtain ⟨M, h1, h2, ⟨e1, e2, e3, e4, e5⟩, _⟩ := h
  exact ⟨M, h1, h2, e1, e2, e3, e4, e5⟩
theorem UsAt.tree {w : World} {u a : Nat} {x : US} (h : UsAt w u a x) (hx : x.Ok) : TAt w u a x.pg x.tree := by
  obtain ⟨M, h1, h2, e1, e2, e3, e4, e5⟩ := h
  exact ⟨M, h1, h2, ⟨e1, e2, e3, e4, e5⟩, hx.tri, hx.pg1⟩
/-- Changes at once, from a tree to a tree. -/
theorem all_tt {w : World} {u a pg : Nat} {T T' : Tree} (h : TAt w u a pg T) {l : List Ch} (hl : l.length < 1000) (hr : ∀ M : Md, Live pg M T → M.many = 0 → ∃ n, Step pg M l T' n) {A : Option Addr} {c : Nat} (hC : Kd.C chK w A l.length l) (hg : ∀ ad, A = some ad → ad.block ≠ a) :
    Calls Tryz.prog 39 #[.pointer (some ⟨u, 0, none⟩), .slice A l.length c] w fun e w' => e = .returned (.int .i64 0) ∧ TAt w' u a pg T' ∧ Mut (only a) w w' := by
  obtain ⟨M, h1, h2, ⟨e1, e2, e3, e4, e5⟩, htri, hpg⟩ := h
  obtain ⟨n, M1, r, hlv, _⟩ := hr M.begun ⟨congrArg some e1, htri, Int.le_refl 0, e3, e4, e5, hpg⟩ rfl
  have hne := h1.ne h2
  have ha := allM_ok r hlv.opn
  refine (all_t M l hl a u pg 64 A c w h2 e2 h1 hC hg r.1).mono ?_
  rintro e w' ⟨rfl, k1, k2⟩
  rw [ha] at k1 ⊢
  exact ⟨rfl, ⟨_, Blk.kept h1 k2 hne, k1, ⟨rfl, rfl, hlv.pl, hlv.ks, hlv.size⟩, hlv.tri, hpg⟩, k2⟩
theorem first_ok {pg v : Nat} {s : List UInt8} (h1 : 1 ≤ v) (h2 : v ≤ 1073741824) (p1 : 1 ≤ pg) (p2 : pg ≤ 1024) (hs : s.length ≤ 64 * pg) : (first pg v ⟨v, s.length, shaL s⟩ s).Ok where
  pg0 := p1
  pg1 := p2
  b := ⟨by show 0 ≤ 7; decide, h1, h2, Nat.le_refl _, h2, by show 0 ≤ _; decide, fun _ => rfl, fun h => by cases h⟩
  im := fun t => by
    cases t
    · exact hs
    · exact Nat.zero_le _
  m := fun t m e => by
    cases t
    · obtain rfl := Option.some.inj e
      exact ⟨h1, h2, by show s.length ≤ _; omega, rfl⟩
    · cases e
  pn := fun m g e => by cases e
end Go.Proofs.YticnmogeknlmeaaGreatDoor.B
