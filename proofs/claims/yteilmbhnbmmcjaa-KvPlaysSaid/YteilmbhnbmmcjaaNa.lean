/- Helper: may a pair be?; what is told of a page that may not be; walked. No condition. -/
import Derived.Test.YteilmbhnbmmcjaaKs
import Derived.Test.YteilmbhnbmmcjaaKo
namespace Go.Proofs.Yteilmbhnbmmcjaa.B
open Go.RowKit Go.Proofs.YteilmbhnbmmcjaaW.PrintWords Go.Proofs.Yteilmbhnbmmcjaa.Later
set_option maxRecDepth 100000
set_option maxHeartbeats 3200000
theorem lgood_any (k v : List UInt8) (hk : k.length ≤ 9223372036854775807) (hv : v.length ≤ 9223372036854775807) (w : World) : Calls Try.prog 32 #[.agg #[.string (bs k), .string (bs v)]] w fun e w' => e = .returned (.bool (goodK k v)) ∧ Below w.heap.size w w' := by
  have h1 := bs_size k
  have h2 := bs_size v
  have hA : Below w.heap.size w (w.alloc (.cells #[.string (bs k), .string (bs v)] 63)) := (Below.refl _ _).alloc (Nat.le_refl _) _
  by_cases h0 : k = []
  · subst h0
    have e : goodK [] v = false := rfl
    rw [e]
    go_enter Try.func32, Try.ntmps32
    go_wp2
    go_ret
    exact ⟨rfl, hA⟩
  · have h0' : (1 : Int) ≤ (k.length : Int) := by
      have : 0 < k.length := List.length_pos_iff.2 h0
      omega
    by_cases h3 : k.length ≤ 16
    · have h3' : decide ((k.length : Int) ≤ 16) = true := by simp; omega
      by_cases h4 : v.length ≤ 30
      · have h4' : decide ((v.length : Int) ≤ 30) = true := by simp; omega
        have e : goodK k v = true := by simp [goodK, h0, h3, h4]
        rw [e]
        go_enter Try.func32, Try.ntmps32
        go_wp2
        go_ret
        exact ⟨rfl, hA⟩
      · have h4' : decide ((v.length : Int) ≤ 30) = false := by simp; omega
        have e : goodK k v = false := by simp [goodK, h0, h3, h4]
        rw [e]
        go_enter Try.func32, Try.ntmps32
        go_wp2
        go_ret
        exact ⟨rfl, hA⟩
    · have h3' : decide ((k.length : Int) ≤ 16) = false := by simp; omega
      have e : goodK k v = false := by simp [goodK, h0, h3]
      rw [e]
      go_enter Try.func32, Try.ntmps32
      go_wp2
      go_ret
      exact ⟨rfl, hA⟩
theorem prsF_len (n : Nat) : ∀ (f : Nat) (l : List UInt8) (out : List Pr), (prsF n f l out).2.length ≤ out.length + f
  | 0, _, out => by simp [prsF]
  | f + 1, l, out => by
    unfold prsF
    by_cases h1 : l = []
    · rw [if_pos h1]; simp
    · rw [if_neg h1]
      simp only
      split
      · simp
      · split
        · simp
        · refine Nat.le_trans (prsF_len n f _ _) ?_
          simp
          omega
theorem loadP_len (o : Option (List UInt8)) (k : Nat) (h : ∀ s, o = some s → s.length ≤ 64) : (loadP o k).2.length ≤ 65 := by
  cases o with
  | none => simp [loadP]
  | some s =>
    have h1 := h s rfl
    have := prsF_len k (s.length + 1) s []
    simp only [loadP]
    simp only [List.length_nil, Nat.zero_add] at this
    omega
theorem loadP_good (o : Option (List UInt8)) (k : Nat) (h : (loadP o k).1 = 0) : Good k (loadP o k).2 := by
  cases o with
  | none => exact good_nil k
  | some s => exact prsF_good k _ s [] (good_nil k) h
theorem good_small {k : Nat} {l : List Pr} (h : Good k l) : ∀ x ∈ l, x.small := fun x hx => by
  obtain ⟨_, _, h3, h4⟩ := h.2 x hx
  exact ⟨by omega, by omega⟩
/-- A key set where a page may not be: its error. -/
theorem kset_bad (a g : Nat) (pg : Nat → Option (List UInt8)) (w : World) (hD : KvDev w a pg) (hg : Blk w g (stC a) 113) (p : List Pr) (hp : p.length ≤ 1000) (hpf : ∀ x ∈ p, Fine x) (hpg : p.any (fun x => !goodK x.k x.v) = false) (A : Option Addr) (c : Nat) (hC : Kd.C prK w A p.length p)
    (k : Nat) (hk : k < 4) (hz : ∀ j, j < k → (loadP (pg j) j).1 = 0) (hne : (loadP (pg k) k).1 ≠ 0) :
    Calls Try.prog 31 #[.pointer (some ⟨g, 0, none⟩), .slice A p.length c] w fun e w2 => e = .returned (.int .i64 (loadP (pg k) k).1) ∧ Below w.heap.size w w2 := by
  obtain ⟨F, many, hF, hFp, hlen, hM⟩ := hD
  have hpb : pgB pg (mkM (LT 5 4 F false) none many).see := fun k hk => ⟨(page_LT5 F false k).trans (hFp k hk), hlen k hk⟩
  have hPM : ∀ (L : Nat → List Pr) (m : Nat), PM L (fun P _ => P) p m = L := fun L m => by
    induction m with
    | zero => rfl
    | succ m ih =>
      funext j
      simp only [PM, upN, ih]
      split
      · rename_i h; rw [h]
      · rfl
  have hno : ¬ ∀ j, j < 4 → (loadP (pg j) j).1 = 0 := fun h => hne (h k hk)
  have hch := change_any _ a g pg hpb (fun k => (loadP (pg k) k).2) (fun _ _ => rfl) p hp hpf A c 62 enter62 (fun P _ => P) (fun z w2 => z = (loadP (pg k) k).1 ∧ Below w.heap.size w w2) w hM hg hC
    (fun h => by rw [hpg] at h; cases h)
    (fun _ j hj hjz hjn w' hb => by
      have : j = k := by
        rcases Nat.lt_trichotomy j k with h | h | h
        · exact absurd (hz j h) hjn
        · exact h
        · exact absurd (hjz k h) hne
      subst this
      exact ⟨rfl, hb⟩)
    (fun _ m _ j hj h0 => by
      rw [hPM]
      exact ⟨good_small (loadP_good _ _ h0), by have := loadP_len (pg j) j (hlen j hj); omega⟩)
    (fun _ h => absurd h hno) (fun _ h => absurd h hno) (fun _ h => absurd h hno)
  have Hch := Lib.hid hch
  clear hch hM hg hC hF hFp hlen hpb hPM hno hz hne
  go_enter Try.func31, Try.ntmps31
  go_wp2_with fail
  refine Hch.out.mono ?_
  rintro e w1 ⟨z, rfl, rfl, hb⟩
  go_wp2
  go_ret
  exact ⟨rfl, hb⟩
end Go.Proofs.Yteilmbhnbmmcjaa.B
