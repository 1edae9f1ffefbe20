/- Helper: the statement of which page a key is kept by; walked. No condition. -/
import Derived.Test.YteilmbhnbmmcjaaKo
namespace Go.Proofs.Yteilmbhnbmmcjaa.B
open Go.RowKit Go.Proofs.YteilmbhnbmmcjaaW.PrintWords Go.Proofs.Yteilmbhnbmmcjaa.Later
set_option maxRecDepth 100000
set_option maxHeartbeats 3200000
theorem KvBuckets_any (s : ByteArray) (hs : s.size ≤ 140737488351232) (w : World) : Calls Try.prog 6 #[.string s] w fun e w' => e = .returned (.bool true) ∧ Below w.heap.size w w' := by
  rw [← bs_of s]
  obtain ⟨l, hl⟩ : ∃ l, l = s.data.toList := ⟨_, rfl⟩
  rw [← hl]
  have hsz := bs_size l
  have hll : l.length ≤ 140737488351232 := by rw [← bs_size l, hl, bs_of]; exact hs
  clear hl hs
  obtain ⟨t, ht⟩ : ∃ t, t = l.take 40 := ⟨_, rfl⟩
  have htl : t.length ≤ 40 := by rw [ht]; simp; omega
  have hex : (bs l).extract 0 40 = bs t := by rw [bs_extract, ht]; simp
  have hex2 : l.length ≤ 40 → bs l = bs t := fun h => by rw [ht, List.take_of_length_le h]
  have hbk := bucket_any t (by omega)
  have hrs : ∀ w, Calls Try.prog 25 #[.string (bs t)] w fun e w' => e = .returned (.int .u32 ((crc t).toNat : Int)) ∧ w = w' := fun w => refsum_any t (by omega) w
  obtain ⟨q, hq⟩ : ∃ q, q = bucket t := ⟨_, rfl⟩
  obtain ⟨N, hN⟩ : ∃ N, N = (crc t).toNat := ⟨_, rfl⟩
  have hNq : ((N : Int) % 4) = (q : Int) := by
    have : q = N % 4 := by rw [hq, hN]; rfl
    omega
  have hq4 : q < 4 := by rw [hq]; exact bucket_lt t
  rw [← hq] at hbk
  rw [← hN] at hrs
  have hN32 : N < 4294967296 := by rw [hN]; exact (crc t).isLt
  have Hbk := Lib.hid hbk
  have Hrs := Lib.hid hrs
  clear hq hN hbk hrs
  by_cases h40 : l.length ≤ 40
  · obtain rfl : t = l := by rw [ht, List.take_of_length_le h40]
    have h40i : (t.length : Int) ≤ 40 := by omega
    have hexl : (bs t).extract 0 t.length = bs t := by rw [bs_extract]; simp
    clear hex hex2 ht
    go_enter Try.func6, Try.ntmps6
    go_wp2_with fail
    refine (awake_any _).mono ?_
    rintro e w1 ⟨rfl, hb1⟩
    go_wp2_with fail
    refine (Hbk.out _).mono ?_
    rintro e w2 ⟨rfl, rfl⟩
    go_wp2_with fail
    refine (Hrs.out _).mono ?_
    rintro e w2 ⟨rfl, rfl⟩
    go_wp2
    go_ret
    exact ⟨rfl, hb1⟩
  · have h40i : (40 : Int) < (l.length : Int) := by omega
    have h40n : 40 ≤ l.length := by omega
    clear hex2 ht
    go_enter Try.func6, Try.ntmps6
    go_wp2_with fail
    refine (awake_any _).mono ?_
    rintro e w1 ⟨rfl, hb1⟩
    go_wp2_with fail
    refine (Hbk.out _).mono ?_
    rintro e w2 ⟨rfl, rfl⟩
    go_wp2_with fail
    refine (Hrs.out _).mono ?_
    rintro e w2 ⟨rfl, rfl⟩
    go_wp2
    go_ret
    exact ⟨rfl, hb1⟩
end Go.Proofs.Yteilmbhnbmmcjaa.B
