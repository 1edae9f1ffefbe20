/- Helper: rows of one-cell elements that a call owns. contracts of the library at this program: laid by the kit's own command, in plain words. small functions of the digest, walked: square, cube, the first bits of a root, a turn to the right. a word turned to the right, in both texts; walked. the first bits of roots, walked. the first bits of a root, walked. the first primes, walked. No condition. -/
import Derived.Test.YticnmogeknlmeaaGreatDoorN01
import Derived.Shelf.Small.Strs
import Derived.Shelf.Small.Wraps
import Derived.Shelf.Strings.Search1
import Derived.Shelf.Strings.Count
import Derived.Shelf.Strings.Split
import Derived.Shelf.Bits.Mul64
import Derived.Test.YticnmogeknlmeaaGreatDoorProg
import Derived.Laws.Bits64b
import Derived.Laws.Externs
import Derived.Deep.LoopGhost
namespace Go.Proofs.YticnmogeknlmeaaGreatDoor.B
open Go.RowKit Go.Proofs.YticnmogeknlmeaaGreatDoorW.PrintWords
section
variable {α : Type} {enc : α → Value} {e : TypeId} {w w' : World} {base : Nat} {v : Value} {xs : List α}
/-- A row of elements that the call itself owns, in blocks from base on. -/
def RowE (enc : α → Value) (e : TypeId) (w : World) (base : Nat) (v : Value) (xs : List α) : Prop := w.ownsRow base e 1 v xs.length (encs enc xs)
theorem RowE.form (h : RowE enc e w base v xs) (h0 : 0 < xs.length) : ∃ g cap, v = .slice (some ⟨g, 0, none⟩) xs.length cap ∧ base ≤ g ∧ g < w.heap.size := World.ownsRow.form h h0
theorem RowE.nil (w : World) (base : Nat) : RowE enc e w base (.slice none 0 0) [] := own_nil w base e 1
theorem RowE.slice (h : RowE enc e w base v xs) : ∃ A cap, v = .slice A xs.length cap ∧ (0 < xs.length → ∃ g, A = some ⟨g, 0, none⟩ ∧ base ≤ g ∧ g < w.heap.size) := by
  rcases h.2 with ⟨hv, hn⟩ | ⟨g, cap, cur, hv, hb, hx⟩
  · have : xs = [] := List.eq_nil_of_length_eq_zero hn
    subst this
    exact ⟨none, 0, by rw [hv]; rfl, fun h => by simp at h⟩
  · by_cases h0 : 0 < xs.length
    · obtain ⟨g', cap', hv', hb', hl'⟩ := RowE.form h h0
      exact ⟨_, cap', hv', fun _ => ⟨g', rfl, hb', hl'⟩⟩
    · exact ⟨_, cap, hv, fun h => absurd h h0⟩
theorem RowE.cell [Inhabited α] {g cap : Nat} (h : RowE enc e w base (.slice (some ⟨g, 0, none⟩) xs.length cap) xs) (i : Nat) (hi : i < xs.length) : w.cell? ⟨g, i, none⟩ = some (enc xs[i]) ∧ w.frozen? ⟨g, i, none⟩ = false := by
  have := own_at_of (enc := enc) (d := default) h (i : Int) (by omega) (by omega)
  have e : rdOf default xs (i : Int) = xs[i] := by simp [rdOf, List.getD_eq_getElem?_getD, List.getElem?_eq_getElem hi]
  rw [e] at this
  simpa using this
theorem RowE.lit (w : World) (base : Nat) (xs : List α) (hb : base ≤ w.heap.size) (hm : xs.length ≤ 9223372036854775807) : RowE enc e (w.alloc (.cells (encs enc xs).toArray e)) base (.slice (some ⟨w.heap.size, 0, none⟩) xs.length xs.length) xs := own_lit_of w base e xs hb hm
theorem RowE.below (h : RowE enc e w base v xs) (hb : Below w.heap.size w w') : RowE enc e w' base v xs := pw_own_below h hb
theorem RowE.lower {b' : Nat} (h : RowE enc e w base v xs) (hb : b' ≤ base) : RowE enc e w b' v xs := own_weaken h hb
end
end Go.Proofs.YticnmogeknlmeaaGreatDoor.B
namespace Go.Proofs
open Go.Shelf
open Go.Shelf
def Tryz.lays137_ren : Go.Shelf.Ren := ⟨fun | 137 => 88 | 217 => 95 | 266 => 105 | n => n, fun | 9 => 9 | 5 => 5 | 3 => 3 | n => n, fun | n => n⟩
theorem Tryz.lays137 : Go.Proofs.Lays.n137 Tryz.prog Tryz.lays137_ren := {
  mixed := by kernel_rfl
  f137 := Tryz.func88.trans (congrArg some (by kernel_rfl))
  f217 := Tryz.func95.trans (congrArg some (by kernel_rfl))
  f266 := Tryz.func105.trans (congrArg some (by kernel_rfl))
  t3 := Tryz.underlying3
  a3 := Tryz.isAgg3
  z3 := Tryz.sizeOf3
  v3 := Tryz.zeroValue3
  t5 := Tryz.underlying5
  a5 := Tryz.isAgg5
  z5 := Tryz.sizeOf5
  v5 := Tryz.zeroValue5
  t9 := Tryz.underlying9
  a9 := Tryz.isAgg9
  z9 := Tryz.sizeOf9
  v9 := Tryz.zeroValue9 }
open Go.RowKit in
theorem Tryz.strings_IndexByte (s : ByteArray) (c : Int) (w : World) :
    Calls Tryz.prog 88 #[.string s, .int .u8 c] w fun e w' => e = .returned (.int .i64 (Lib.indexByte s.data.toList c.toNat.toUInt8)) ∧ w' = w := Any.strings_IndexByte Tryz.lays137 s c w
def Tryz.lays103_ren : Go.Shelf.Ren := ⟨fun | 103 => 68 | 210 => 87 | 206 => 94 | n => n, fun | 9 => 9 | 4 => 4 | 24 => 139 | 3 => 3 | n => n, fun | n => n⟩
theorem Tryz.lays103 : Go.Proofs.Lays.n103 Tryz.prog Tryz.lays103_ren := {
  mixed := by kernel_rfl
  f103 := Tryz.func68.trans (congrArg some (by kernel_rfl))
  f206 := Tryz.func94.trans (congrArg some (by kernel_rfl))
  f210 := Tryz.func87.trans (congrArg some (by kernel_rfl))
  t3 := Tryz.underlying3
  a3 := Tryz.isAgg3
  z3 := Tryz.sizeOf3
  v3 := Tryz.zeroValue3
  t4 := Tryz.underlying4
  a4 := Tryz.isAgg4
  z4 := Tryz.sizeOf4
  v4 := Tryz.zeroValue4
  t9 := Tryz.underlying9
  a9 := Tryz.isAgg9
  z9 := Tryz.sizeOf9
  v9 := Tryz.zeroValue9
  t24 := Tryz.underlying139
  a24 := Tryz.isAgg139
  z24 := Tryz.sizeOf139
  v24 := Tryz.zeroValue139 }
open Go.RowKit in
theorem Tryz.strings_CutPrefix (s p : ByteArray) (w : World) :
    Calls Tryz.prog 68 #[.string s, .string p] w fun e w' => e = .returned (.tuple #[.string ⟨(Lib.trimPrefix s.data.toList p.data.toList).toArray⟩, .bool (Lib.hasPrefix s.data.toList p.data.toList)]) ∧ w' = w := Any.strings_CutPrefix Tryz.lays103 s p w
def Tryz.lays143_ren : Go.Shelf.Ren := ⟨fun | 143 => 93 | 219 => 104 | 217 => 95 | 225 => 110 | 224 => 111 | 267 => 112 | 266 => 105 | 314 => 113 | n => n, fun | 9 => 9 | 3 => 3 | 4 => 4 | 5 => 5 | 46 => 85 | 146 => 180 | 51 => 82 | n => n, fun | 1 => 0 | n => n⟩
theorem Tryz.lays143 : Go.Proofs.Lays.n143 Tryz.prog Tryz.lays143_ren := {
  mixed := by kernel_rfl
  f143 := Tryz.func93.trans (congrArg some (by kernel_rfl))
  f217 := Tryz.func95.trans (congrArg some (by kernel_rfl))
  f219 := Tryz.func104.trans (congrArg some (by kernel_rfl))
  f224 := Tryz.func111.trans (congrArg some (by kernel_rfl))
  f225 := Tryz.func110.trans (congrArg some (by kernel_rfl))
  f266 := Tryz.func105.trans (congrArg some (by kernel_rfl))
  f267 := Tryz.func112.trans (congrArg some (by kernel_rfl))
  f314 := Tryz.func113.trans (congrArg some (by kernel_rfl))
  t3 := Tryz.underlying3
  a3 := Tryz.isAgg3
  z3 := Tryz.sizeOf3
  v3 := Tryz.zeroValue3
  t4 := Tryz.underlying4
  a4 := Tryz.isAgg4
  z4 := Tryz.sizeOf4
  v4 := Tryz.zeroValue4
  t5 := Tryz.underlying5
  a5 := Tryz.isAgg5
  z5 := Tryz.sizeOf5
  v5 := Tryz.zeroValue5
  t9 := Tryz.underlying9
  a9 := Tryz.isAgg9
  z9 := Tryz.sizeOf9
  v9 := Tryz.zeroValue9
  t46 := Tryz.underlying85
  a46 := Tryz.isAgg85
  z46 := Tryz.sizeOf85
  v46 := Tryz.zeroValue85
  t51 := Tryz.underlying82
  a51 := Tryz.isAgg82
  z51 := Tryz.sizeOf82
  v51 := Tryz.zeroValue82
  t146 := Tryz.underlying180
  a146 := Tryz.isAgg180
  z146 := Tryz.sizeOf180
  v146 := Tryz.zeroValue180
  g1 := by kernel_rfl }
open Go.RowKit Go.Lib in
theorem Tryz.strings_Index_one (s : ByteArray) (c : UInt8) (w : World) :
    Calls Tryz.prog 93 #[.string s, .string ⟨#[c]⟩] w fun e w' => e = .returned (.int .i64 (Lib.indexByte s.data.toList c)) ∧ w' = w := Any.strings_Index_one Tryz.lays143 s c w
def Tryz.lays138_ren : Go.Shelf.Ren := ⟨fun | 138 => 92 | 195 => 101 | 218 => 103 | 143 => 93 | 219 => 104 | 217 => 95 | 225 => 110 | 224 => 111 | 267 => 112 | 266 => 105 | 314 => 113 | n => n, fun | 9 => 9 | 3 => 3 | 4 => 4 | 5 => 5 | 0 => 0 | 46 => 85 | 146 => 180 | 51 => 82 | n => n, fun | 1 => 0 | n => n⟩
theorem Tryz.lays138 : Go.Proofs.Lays.n138 Tryz.prog Tryz.lays138_ren := {
  mixed := by kernel_rfl
  f138 := Tryz.func92.trans (congrArg some (by kernel_rfl))
  f143 := Tryz.func93.trans (congrArg some (by kernel_rfl))
  f195 := Tryz.func101.trans (congrArg some (by kernel_rfl))
  f217 := Tryz.func95.trans (congrArg some (by kernel_rfl))
  f218 := Tryz.func103.trans (congrArg some (by kernel_rfl))
  f219 := Tryz.func104.trans (congrArg some (by kernel_rfl))
  f224 := Tryz.func111.trans (congrArg some (by kernel_rfl))
  f225 := Tryz.func110.trans (congrArg some (by kernel_rfl))
  f266 := Tryz.func105.trans (congrArg some (by kernel_rfl))
  f267 := Tryz.func112.trans (congrArg some (by kernel_rfl))
  f314 := Tryz.func113.trans (congrArg some (by kernel_rfl))
  t0 := Tryz.underlying0
  a0 := Tryz.isAgg0
  z0 := Tryz.sizeOf0
  v0 := Tryz.zeroValue0
  t3 := Tryz.underlying3
  a3 := Tryz.isAgg3
  z3 := Tryz.sizeOf3
  v3 := Tryz.zeroValue3
  t4 := Tryz.underlying4
  a4 := Tryz.isAgg4
  z4 := Tryz.sizeOf4
  v4 := Tryz.zeroValue4
  t5 := Tryz.underlying5
  a5 := Tryz.isAgg5
  z5 := Tryz.sizeOf5
  v5 := Tryz.zeroValue5
  t9 := Tryz.underlying9
  a9 := Tryz.isAgg9
  z9 := Tryz.sizeOf9
  v9 := Tryz.zeroValue9
  t46 := Tryz.underlying85
  a46 := Tryz.isAgg85
  z46 := Tryz.sizeOf85
  v46 := Tryz.zeroValue85
  t51 := Tryz.underlying82
  a51 := Tryz.isAgg82
  z51 := Tryz.sizeOf82
  v51 := Tryz.zeroValue82
  t146 := Tryz.underlying180
  a146 := Tryz.isAgg180
  z146 := Tryz.sizeOf180
  v146 := Tryz.zeroValue180
  g1 := by kernel_rfl }
open Go.RowKit Go.Lib in
theorem Tryz.strings_Count_one (s : ByteArray) (c : UInt8) (w : World) :
    Calls Tryz.prog 92 #[.string s, .string ⟨#[c]⟩] w fun e w' => e = .returned (.int .i64 (Lib.countByte s.data.toList c)) ∧ w' = w := Any.strings_Count_one Tryz.lays138 s c w
def Tryz.lays264_ren : Go.Shelf.Ren := ⟨fun | 264 => 106 | n => n, fun | 53 => 84 | 46 => 85 | n => n, fun | n => n⟩
theorem Tryz.lays264 : Go.Proofs.Lays.n264 Tryz.prog Tryz.lays264_ren := {
  mixed := by kernel_rfl
  f264 := Tryz.func106.trans (congrArg some (by kernel_rfl))
  t46 := Tryz.underlying85
  a46 := Tryz.isAgg85
  z46 := Tryz.sizeOf85
  v46 := Tryz.zeroValue85
  t53 := Tryz.underlying84
  a53 := Tryz.isAgg84
  z53 := Tryz.sizeOf84
  v53 := Tryz.zeroValue84 }
open Go.RowKit Go.Lib in
theorem Tryz.bits_Mul64 (x y : Nat) (hx : x < 18446744073709551616) (hy : y < 18446744073709551616) (w : World) :
    Calls Tryz.prog 106 #[.int .u64 x, .int .u64 y] w fun e w' => e = .returned (.tuple #[.int .u64 ((x * y / 18446744073709551616 : Nat) : Int), .int .u64 ((x * y % 18446744073709551616 : Nat) : Int)]) ∧ w' = w := Any.bits_Mul64 Tryz.lays264 x y hx hy w
def Tryz.lays221_ren : Go.Shelf.Ren := ⟨fun | 221 => 85 | 268 => 91 | 138 => 92 | 143 => 93 | 195 => 101 | 197 => 102 | 218 => 103 | 219 => 104 | 260 => 109 | 217 => 95 | 225 => 110 | 224 => 111 | 267 => 112 | 266 => 105 | 314 => 113 | n => n, fun | 9 => 9 | 3 => 3 | 31 => 135 | 4 => 4 | 0 => 0 | 105 => 170 | 21 => 21 | 5 => 5 | 46 => 85 | 119 => 176 | 139 => 179 | 138 => 178 | 146 => 180 | 51 => 82 | n => n, fun | 1 => 0 | 3 => 1 | 4 => 2 | n => n⟩
theorem Tryz.lays221 : Go.Proofs.Lays.n221 Tryz.prog Tryz.lays221_ren := {
  mixed := by kernel_rfl
  f138 := Tryz.func92.trans (congrArg some (by kernel_rfl))
  f143 := Tryz.func93.trans (congrArg some (by kernel_rfl))
  f195 := Tryz.func101.trans (congrArg some (by kernel_rfl))
  f197 := Tryz.func102.trans (congrArg some (by kernel_rfl))
  f217 := Tryz.func95.trans (congrArg some (by kernel_rfl))
  f218 := Tryz.func103.trans (congrArg some (by kernel_rfl))
  f219 := Tryz.func104.trans (congrArg some (by kernel_rfl))
  f221 := Tryz.func85.trans (congrArg some (by kernel_rfl))
  f224 := Tryz.func111.trans (congrArg some (by kernel_rfl))
  f225 := Tryz.func110.trans (congrArg some (by kernel_rfl))
  f260 := Tryz.func109.trans (congrArg some (by kernel_rfl))
  f266 := Tryz.func105.trans (congrArg some (by kernel_rfl))
  f267 := Tryz.func112.trans (congrArg some (by kernel_rfl))
  f268 := Tryz.func91.trans (congrArg some (by kernel_rfl))
  f314 := Tryz.func113.trans (congrArg some (by kernel_rfl))
  t0 := Tryz.underlying0
  a0 := Tryz.isAgg0
  z0 := Tryz.sizeOf0
  v0 := Tryz.zeroValue0
  t3 := Tryz.underlying3
  a3 := Tryz.isAgg3
  z3 := Tryz.sizeOf3
  v3 := Tryz.zeroValue3
  t4 := Tryz.underlying4
  a4 := Tryz.isAgg4
  z4 := Tryz.sizeOf4
  v4 := Tryz.zeroValue4
  t5 := Tryz.underlying5
  a5 := Tryz.isAgg5
  z5 := Tryz.sizeOf5
  v5 := Tryz.zeroValue5
  t9 := Tryz.underlying9
  a9 := Tryz.isAgg9
  z9 := Tryz.sizeOf9
  v9 := Tryz.zeroValue9
  t21 := Tryz.underlying21
  a21 := Tryz.isAgg21
  z21 := Tryz.sizeOf21
  v21 := Tryz.zeroValue21
  t31 := Tryz.underlying135
  a31 := Tryz.isAgg135
  z31 := Tryz.sizeOf135
  v31 := Tryz.zeroValue135
  t46 := Tryz.underlying85
  a46 := Tryz.isAgg85
  z46 := Tryz.sizeOf85
  v46 := Tryz.zeroValue85
  t51 := Tryz.underlying82
  a51 := Tryz.isAgg82
  z51 := Tryz.sizeOf82
  v51 := Tryz.zeroValue82
  t105 := Tryz.underlying170
  a105 := Tryz.isAgg170
  z105 := Tryz.sizeOf170
  v105 := Tryz.zeroValue170
  t119 := Tryz.underlying176
  a119 := Tryz.isAgg176
  z119 := Tryz.sizeOf176
  t138 := Tryz.underlying178
  a138 := Tryz.isAgg178
  z138 := Tryz.sizeOf178
  v138 := Tryz.zeroValue178
  t139 := Tryz.underlying179
  a139 := Tryz.isAgg179
  z139 := Tryz.sizeOf179
  v139 := Tryz.zeroValue179
  t146 := Tryz.underlying180
  a146 := Tryz.isAgg180
  z146 := Tryz.sizeOf180
  v146 := Tryz.zeroValue180
  g1 := by kernel_rfl
  g3 := by kernel_rfl
  g4 := by kernel_rfl }
open Go.RowKit Go.Lib in
theorem Tryz.genSplit_one (s : ByteArray) (c : UInt8) (w : World) (hs : s.size < 4294967281) :
    Calls Tryz.prog 85 #[.string s, .string ⟨#[c]⟩, .int .i64 (0 : Nat), .int .i64 (-1)] w fun e w' =>
      e = .returned (.slice (some ⟨w.heap.size, 0, none⟩) (Lib.splitB ⟨#[c]⟩ 0 (Lib.countB s ⟨#[c]⟩) s).length (Lib.countB s ⟨#[c]⟩ + 1)) ∧ w' = w.alloc (.cells (Lib.cellsOf (Lib.splitB ⟨#[c]⟩ 0 (Lib.countB s ⟨#[c]⟩) s) (Lib.countB s ⟨#[c]⟩ + 1)) 9) := by
  have h1 : (1 : Nat) ≤ (⟨#[c]⟩ : ByteArray).size := Nat.le_refl 1
  have hle := Lib.countB_le ⟨#[c]⟩ h1 s.size s (Nat.le_refl _)
  refine Any.strings_genSplit_core Tryz.lays221 (by kernel_rfl) s ⟨#[c]⟩ 0 (-1) (Lib.countB s ⟨#[c]⟩ + 1) w hs h1 (Nat.zero_le _) (fun x a hx => ?_) ?_ (by decide) (by decide) (by rw [if_pos (by decide)]; omega)
  · refine (Tryz.strings_Index_one x c _).mono fun e w' ⟨he, hw⟩ => ⟨?_, hw⟩
    rw [he]
    show _ = Ending.returned (Value.int .i64 (Lib.index x.data.toList [c]))
    rw [Lib.index_one]
  · refine (Tryz.strings_Count_one s c w).mono fun e w' ⟨he, hw⟩ => ⟨?_, hw⟩
    rw [he]
    show _ = Ending.returned (Value.int .i64 ((Lib.count s.data.toList [c] : Nat) : Int))
    rw [Lib.count_one]
    rfl
end Go.Proofs
namespace Go.Proofs.YticnmogeknlmeaaGreatDoor.B
open Go.RowKit Go.Proofs.YticnmogeknlmeaaGreatDoorW.PrintWords
set_option maxRecDepth 100000
set_option maxHeartbeats 800000
def T64 : Nat := 18446744073709551616
/-- Is a square at most p times 2^64? -/
def sqOk (p x : Nat) : Bool := decide (x * x / T64 < p) || (decide (x * x / T64 = p) && decide (x * x % T64 = 0))
theorem mul64 (x y : Nat) (hx : x < T64) (hy : y < T64) (w : World) : Calls Tryz.prog 106 #[.int .u64 x, .int .u64 y] w fun e w' => e = .returned (.tuple #[.int .u64 ((x * y / T64 : Nat) : Int), .int .u64 ((x * y % T64 : Nat) : Int)]) ∧ w = w' :=
  (Tryz.bits_Mul64 x y hx hy w).mono fun _ _ ⟨he, hw⟩ => ⟨he, hw.symm⟩
theorem square_any (x p : Nat) (hx : x < T64) (w : World) : Calls Tryz.prog 98 #[.int .u64 x, .int .u64 p] w fun e w' => e = .returned (.bool (sqOk p x)) ∧ w = w' := by
  have HM := Lib.hid (mul64 x x hx hx w)
  obtain ⟨a, ha⟩ : ∃ a, a = x * x / T64 := ⟨_, rfl⟩
  obtain ⟨b, hb⟩ : ∃ b, b = x * x % T64 := ⟨_, rfl⟩
  have HS := Lib.hid (show sqOk p x = (decide (a < p) || (decide (a = p) && decide (b = 0))) by rw [ha, hb]; rfl)
  rw [← ha, ← hb] at HM
  clear ha hb hx
  rw [HS.out]
  go_enter Tryz.func98, Tryz.ntmps98
  go_wp2_with fail
  refine HM.out.mono ?_
  rintro e w1 ⟨rfl, rfl⟩
  by_cases h1 : a < p
  · have h2 : decide ((a : Int) < (p : Int)) = true := by simpa using h1
    go_wp2
    go_ret
    exact ⟨by simp [h1], rfl⟩
  · have h2 : decide ((a : Int) < (p : Int)) = false := by simpa using h1
    by_cases h3 : a = p
    · subst h3
      by_cases h4 : b = 0
      · subst h4
        go_wp2
        go_ret
        exact ⟨by simp, rfl⟩
      · go_wp2
        go_ret
        exact ⟨by simp [h4], rfl⟩
    · go_wp2
      go_ret
      exact ⟨by simp [h1, h3], rfl⟩
end Go.Proofs.YticnmogeknlmeaaGreatDoor.B
namespace Go.Proofs.YticnmogeknlmeaaGreatDoor.B
open Go.RowKit Go.Proofs.YticnmogeknlmeaaGreatDoorW.PrintWords
set_option maxRecDepth 100000
set_option maxHeartbeats 800000
def u32 (c : BitVec 32) : Value := .int .u32 (c.toNat : Int)
def rr (x : BitVec 32) (n : Nat) : BitVec 32 := x.rotateRight n
theorem ofInt_toNat (a : BitVec 32) : BitVec.ofInt 32 (a.toNat : Int) = a := by simp
theorem wrap_u32 (a : BitVec 32) : IntKind.u32.wrap (a.toNat : Int) = a.toNat := by
  have := a.isLt
  simp [IntKind.wrap, IntKind.bits, IntKind.signed]; omega
theorem or32 (a b : BitVec 32) : bits .or .u32 (a.toNat : Int) (b.toNat : Int) = ((a ||| b).toNat : Int) := by
  show IntKind.u32.wrap ((BitVec.ofInt 32 (a.toNat : Int) ||| BitVec.ofInt 32 (b.toNat : Int)).toNat : Int) = _
  rw [ofInt_toNat, ofInt_toNat, wrap_u32]
theorem shrN32 (a : BitVec 32) (n : Nat) : ((a.toNat : Int) / (2 : Int) ^ n) = ((a >>> n).toNat : Int) := by
  rw [BitVec.toNat_ushiftRight, Nat.shiftRight_eq_div_pow]
  simp
theorem shlN32 (a : BitVec 32) (n : Nat) : ((a.toNat : Int) * (2 : Int) ^ n % 4294967296) = ((a <<< n).toNat : Int) := by
  rw [BitVec.toNat_shiftLeft, Nat.shiftLeft_eq]
  simp
theorem rr_or (x : BitVec 32) (n : Nat) (h : n < 32) : rr x n = x >>> n ||| x <<< (32 - n) := by
  unfold rr
  rw [BitVec.rotateRight_eq_rotateRightAux_of_lt h]
  rfl
theorem neg31 (n : Nat) (h1 : 1 ≤ n) (h2 : n ≤ 31) : bits .and .u64 (IntKind.u64.wrap (-(n : Int))) 31 = ((32 - n : Nat) : Int) := by
  have : n = 1 ∨ n = 2 ∨ n = 3 ∨ n = 4 ∨ n = 5 ∨ n = 6 ∨ n = 7 ∨ n = 8 ∨ n = 9 ∨ n = 10 ∨ n = 11 ∨ n = 12 ∨ n = 13 ∨ n = 14 ∨ n = 15 ∨ n = 16 ∨ n = 17 ∨ n = 18 ∨ n = 19 ∨ n = 20 ∨ n = 21 ∨ n = 22 ∨ n = 23 ∨ n = 24 ∨ n = 25 ∨ n = 26 ∨ n = 27 ∨ n = 28 ∨ n = 29 ∨ n = 30 ∨ n = 31 := by omega
  rcases this with rfl | rfl | rfl | rfl | rfl | rfl | rfl | rfl | rfl | rfl | rfl | rfl | rfl | rfl | rfl | rfl | rfl | rfl | rfl | rfl | rfl | rfl | rfl | rfl | rfl | rfl | rfl | rfl | rfl | rfl | rfl <;> decide +kernel
theorem rot_any (x : BitVec 32) (n : Nat) (h1 : 1 ≤ n) (h2 : n ≤ 31) (w : World) : Calls Tryz.prog 108 #[u32 x, .int .i64 (-(n : Int))] w fun e w' => e = .returned (u32 (rr x n)) ∧ w = w' := by
  have hb := neg31 n h1 h2
  obtain ⟨m, hm⟩ : ∃ m, m = 32 - n := ⟨_, rfl⟩
  rw [← hm] at hb
  have h3 : 1 ≤ m := by omega
  have h4 : m ≤ 31 := by omega
  have Hn := Lib.hid (show n = 32 - m by omega)
  have Hm := Lib.hid hm
  clear hm
  unfold u32
  go_enter Tryz.func108, Tryz.ntmps108
  go_wp2
  go_ret
  refine ⟨?_, rfl⟩
  rw [rr_or x n (by omega), ← Hm.out, Hn.out, shrN32, shlN32, or32, BitVec.or_comm]
  rfl
theorem right_any (x : BitVec 32) (n : Nat) (h1 : 1 ≤ n) (h2 : n ≤ 31) (w : World) : Calls Tryz.prog 100 #[u32 x, .int .i64 (n : Int)] w fun e w' => e = .returned (u32 (rr x n)) ∧ w = w' := by
  have H := Lib.hid (rot_any x n h1 h2 w)
  unfold u32 at *
  go_enter Tryz.func100, Tryz.ntmps100
  go_wp2_with fail
  refine H.out.mono ?_
  rintro e w1 ⟨rfl, rfl⟩
  go_wp2
  go_ret
  exact ⟨rfl, rfl⟩
theorem rrR_any (x : BitVec 32) (n : Nat) (h1 : 1 ≤ n) (h2 : n ≤ 31) (w : World) : Calls Tryz.prog 32 #[u32 x, .int .u64 (n : Int)] w fun e w' => e = .returned (u32 (rr x n)) ∧ w = w' := by
  unfold u32
  go_enter Tryz.func32, Tryz.ntmps32
  go_wp2
  go_ret
  refine ⟨?_, rfl⟩
  rw [rr_or x n (by omega), shrN32, shlN32, or32]
  rfl
end Go.Proofs.YticnmogeknlmeaaGreatDoor.B
namespace Go.Proofs.YticnmogeknlmeaaGreatDoor.B
open Go.RowKit Go.Proofs.YticnmogeknlmeaaGreatDoorW.PrintWords
set_option maxRecDepth 100000
set_option maxHeartbeats 800000
/-- Is a cube at most p times 2^96? -/
def cuOk (p x : Nat) : Bool := decide (x * x / T64 * x + x * x % T64 * x / T64 < p * 4294967296) || (decide (x * x / T64 * x + x * x % T64 * x / T64 = p * 4294967296) && decide (x * x % T64 * x % T64 = 0))
def B38 : Nat := 274877906944
theorem cube_bounds (x : Nat) (hx : x < B38) : x < T64 ∧ x * x / T64 < 4096 ∧ x * x / T64 < T64 ∧ x * x % T64 < T64 ∧ x * x / T64 * x / T64 = 0 ∧ x * x / T64 * x % T64 = x * x / T64 * x ∧ x * x / T64 * x ≤ 1125899906842624 ∧ x * x % T64 * x / T64 ≤ 274877906944 := by
  unfold B38 at hx
  have h1 : x * x ≤ 274877906943 * 274877906943 := Nat.mul_le_mul (by omega) (by omega)
  have h2 : x * x / T64 < 4096 := by unfold T64; omega
  have h3 : x * x / T64 * x ≤ 4095 * 274877906943 := Nat.mul_le_mul (by omega) (by omega)
  have h4 : x * x % T64 < T64 := Nat.mod_lt _ (by decide)
  have h5 : x * x % T64 * x ≤ T64 * x := Nat.mul_le_mul (by omega) (Nat.le_refl _)
  have h6 : x * x % T64 * x / T64 ≤ x := Nat.div_le_of_le_mul h5
  refine ⟨?_, h2, ?_, h4, ?_, ?_, by omega, by omega⟩
  · unfold T64; omega
  · have : (4096 : Nat) < T64 := by decide
    omega
  · exact Nat.div_eq_of_lt (Nat.lt_of_le_of_lt h3 (by decide))
  · exact Nat.mod_eq_of_lt (Nat.lt_of_le_of_lt h3 (by decide))
theorem add64 (x y : Nat) (hx : x ≤ 1125899906842624) (hy : y ≤ 274877906944) (w : World) : (callFunc 107 #[.int .u64 (x : Int), .int .u64 (y : Int), .int .u64 0]).run Tryz.prog w = .ok (.value (.tuple #[.int .u64 ((x + y : Nat) : Int), .int .u64 0])) w := by
  rw [run_callFunc_extern Tryz.func107 (by kernel_rfl) (by kernel_rfl) (by kernel_rfl) (e := add64Entry) (by kernel_rfl), run_add64 (x : Int) (y : Int) 0 (by omega) (by omega) (by omega) (by omega)]
  have e1 : ((x : Int) + (y : Int) + 0) % 18446744073709551616 = ((x + y : Nat) : Int) := by omega
  have e2 : ((x : Int) + (y : Int) + 0) / 18446744073709551616 = 0 := by omega
  rw [e1, e2]
  rfl
theorem cube_any (x p : Nat) (hx : x < B38) (hp : p ≤ 400) (w : World) : Calls Tryz.prog 99 #[.int .u64 x, .int .u64 p] w fun e w' => e = .returned (.bool (cuOk p x)) ∧ w = w' := by
  obtain ⟨b1, b2, b3, b4, b5, b6, b7, b8⟩ := cube_bounds x hx
  have H1 := Lib.hid (mul64 x x b1 b1 w)
  have H2 := Lib.hid (mul64 (x * x % T64) x b4 b1 w)
  have H3 := Lib.hid (mul64 (x * x / T64) x b3 b1 w)
  rw [b5, b6] at H3
  have HS := Lib.hid (show cuOk p x = (decide (x * x / T64 * x + x * x % T64 * x / T64 < p * 4294967296) || (decide (x * x / T64 * x + x * x % T64 * x / T64 = p * 4294967296) && decide (x * x % T64 * x % T64 = 0))) from rfl)
  obtain ⟨h, hh⟩ : ∃ h, h = x * x / T64 := ⟨_, rfl⟩
  obtain ⟨l, hl⟩ : ∃ l, l = x * x % T64 := ⟨_, rfl⟩
  rw [← hh] at H1 H3 HS b7
  rw [← hl] at H1 H2 HS b8
  obtain ⟨t, ht⟩ : ∃ t, t = h * x := ⟨_, rfl⟩
  obtain ⟨a, ha⟩ : ∃ a, a = l * x / T64 := ⟨_, rfl⟩
  obtain ⟨b, hb⟩ : ∃ b, b = l * x % T64 := ⟨_, rfl⟩
  rw [← ht] at H3 HS b7
  rw [← ha, ← hb] at H2
  rw [← ha] at HS b8
  rw [← hb] at HS
  obtain ⟨L, hL⟩ : ∃ L, L = p * 4294967296 := ⟨_, rfl⟩
  rw [← hL] at HS
  have hL2 : (p : Int) * 4294967296 = (L : Int) := by rw [hL]; simp
  have HL3 := Lib.hid (show L ≤ 1717986918400 by omega)
  clear hL
  clear hh hl ht ha hb b1 b2 b3 b4 b5 b6 hx
  rw [HS.out]
  have hadd := add64 t a b7 b8
  rw [show ((t + a : Nat) : Int) = ((t + a : Nat) : Int) from rfl] at hadd
  obtain ⟨s, hs⟩ : ∃ s, s = t + a := ⟨_, rfl⟩
  rw [← hs] at hadd HS ⊢
  clear hs b7 b8
  go_enter Tryz.func99, Tryz.ntmps99
  go_wp2_with fail
  refine H1.out.mono ?_
  rintro e w1 ⟨rfl, rfl⟩
  go_wp2_with fail
  refine H2.out.mono ?_
  rintro e w1 ⟨rfl, rfl⟩
  go_wp2_with fail
  refine H3.out.mono ?_
  rintro e w1 ⟨rfl, rfl⟩
  clear H1 H2 H3 HS
  by_cases h1 : s < L
  · have h2 : decide ((s : Int) < (L : Int)) = true := by simpa using h1
    go_wp2_with fail
    go_ret
    exact ⟨by simp [h1], rfl⟩
  · have h2 : decide ((s : Int) < (L : Int)) = false := by simpa using h1
    by_cases h3 : s = L
    · subst h3
      by_cases h4 : b = 0
      · subst h4
        go_wp2_with fail
        go_ret
        exact ⟨by simp, rfl⟩
      · go_wp2_with fail
        go_ret
        exact ⟨by simp [h4], rfl⟩
    · go_wp2_with fail
      go_ret
      exact ⟨by simp [h1, h3], rfl⟩
end Go.Proofs.YticnmogeknlmeaaGreatDoor.B
namespace Go.Proofs.YticnmogeknlmeaaGreatDoor.B
open Go.RowKit Go.Proofs.YticnmogeknlmeaaGreatDoorW.PrintWords
set_option maxRecDepth 100000
set_option maxHeartbeats 800000
/-- A root's bits, from the highest on. -/
def fracN (ok : Nat → Bool) : Nat → Nat → Nat
  | 0, x => x
  | b + 1, x => fracN ok b (if ok (x ||| 2 ^ b) then x ||| 2 ^ b else x)
def FracRel (ok : Nat → Bool) (x y : Value) : Prop := ∃ b n : Nat, b ≤ 38 ∧ n < B38 ∧ fracN ok b n = fracN ok 38 0 ∧ y = .int .u64 ((2 ^ b / 2 : Nat) : Int) ∧ x = .int .u64 (n : Int)
theorem frac_any (g : Nat) (ok : Nat → Bool) (p : Nat) (hcall : ∀ (W : World) (x y : Value), (callFunc g #[x, y]).run Tryz.prog W = .ok (.enter g #[x, y]) W)
    (hf : ∀ (x : Nat) (w : World), x < B38 → Calls Tryz.prog g #[.int .u64 x, .int .u64 p] w fun e w' => e = .returned (.bool (ok x)) ∧ w = w') (w : World) :
    Calls Tryz.prog 97 #[.int .u64 p, .func (.func g) #[] #[]] w fun e w' => e = .returned (u32 (BitVec.ofNat 32 (fracN ok 38 0))) ∧ w = w' := by
  have Hf := Lib.hid hf
  clear hf
  go_enter Tryz.func97, Tryz.ntmps97
  go_wp2_with fail
  go_loop [5, 6] (fun x y => FracRel ok x y) (fun _ y => (intOf y).toNat)
  case atStart => exact ⟨38, 0, Nat.le_refl _, by decide, rfl, rfl, rfl⟩
  case round =>
    obtain ⟨b, n, hb, hn, he, rfl, rfl⟩ := hrel
    have He := Lib.hid he
    have Hn := Lib.hid hn
    clear he hn
    cases b with
    | zero =>
      go_wp2_with fail
      go_ret
      refine ⟨?_, rfl⟩
      have h1 := He.out
      rw [← h1]
      simp [u32, fracN]
    | succ c =>
      have Hx := Lib.hid (show (2 : Nat) ^ (c + 1) / 2 = 2 ^ c by rw [Nat.pow_succ]; omega)
      rw [Hx.out]
      have hor : n ||| 2 ^ c < B38 := Nat.or_lt_two_pow (n := 38) Hn.out (Nat.pow_lt_pow_right (by decide) (by omega))
      have hbb : (2 : Nat) ^ c < 18446744073709551616 := Nat.lt_of_lt_of_le (Nat.pow_lt_pow_right (by decide) (show c < 64 by omega)) (by decide)
      have hpos : 0 < (2 : Nat) ^ c := Nat.pow_pos (by decide)
      have hbits := Go.bits_or_u64_nat n (2 ^ c) (Nat.lt_trans Hn.out (by decide)) hbb
      have Hc := Lib.hid (Hf.out (n ||| 2 ^ c) w hor)
      have HF := Lib.hid (show fracN ok (c + 1) n = fracN ok c (if ok (n ||| 2 ^ c) then n ||| 2 ^ c else n) from rfl)
      have Hor := Lib.hid hor
      obtain ⟨bit, hbit⟩ : ∃ bit, bit = (2 : Nat) ^ c := ⟨_, rfl⟩
      rw [← hbit] at hbits hpos Hor Hc HF ⊢
      have Hbit := Lib.hid hbit
      clear hbit hbb hor Hx
      cases hok : ok (n ||| bit)
      · rw [hok] at Hc HF
        obtain ⟨o, ho⟩ : ∃ o, o = n ||| bit := ⟨_, rfl⟩
        rw [← ho] at hbits Hc Hor
        clear ho hok
        go_wp2_with fail
        refine Hc.out.mono ?_
        rintro e w1 ⟨rfl, rfl⟩
        go_wp2_with fail
        go_round
        case rel => exact ⟨c, n, by omega, Hn.out, by rw [← He.out, HF.out]; rfl, by rw [← Hbit.out]; go_num, rfl⟩
        case measure => simp [intOf]; omega
      · rw [hok] at Hc HF
        obtain ⟨o, ho⟩ : ∃ o, o = n ||| bit := ⟨_, rfl⟩
        rw [← ho] at hbits Hc Hor HF
        clear ho hok
        go_wp2_with fail
        refine Hc.out.mono ?_
        rintro e w1 ⟨rfl, rfl⟩
        go_wp2_with fail
        go_round
        case rel => exact ⟨c, o, by omega, Hor.out, by rw [← He.out, HF.out]; rfl, by rw [← Hbit.out]; go_num, rfl⟩
        case measure => simp [intOf]; omega
theorem frac2_any (p : Nat) (w : World) : Calls Tryz.prog 97 #[.int .u64 p, .func (.func 98) #[] #[]] w fun e w' => e = .returned (u32 (BitVec.ofNat 32 (fracN (sqOk p) 38 0))) ∧ w = w' :=
  frac_any 98 (sqOk p) p (fun _ _ _ => by kernel_rfl) (fun x w hx => square_any x p (Nat.lt_trans hx (by decide)) w) w
theorem frac3_any (p : Nat) (hp : p ≤ 400) (w : World) : Calls Tryz.prog 97 #[.int .u64 p, .func (.func 99) #[] #[]] w fun e w' => e = .returned (u32 (BitVec.ofNat 32 (fracN (cuOk p) 38 0))) ∧ w = w' :=
  frac_any 99 (cuOk p) p (fun _ _ _ => by kernel_rfl) (fun x w hx => cube_any x p hx hp w) w
end Go.Proofs.YticnmogeknlmeaaGreatDoor.B
namespace Go.Proofs.YticnmogeknlmeaaGreatDoor.B
open Go.RowKit Go.Proofs.YticnmogeknlmeaaGreatDoorW.PrintWords
set_option maxRecDepth 100000
set_option maxHeartbeats 1600000
theorem info84 : (Tryz.prog.info? 84).map (fun i => (i.zero, i.size, i.bytes)) = some (some (.int .u64 0), 1, 8) := by kernel_rfl
def enc64 (n : Nat) : Value := .int .u64 (n : Int)
/-- The primes among the first numbers from 2 on. -/
def sieve : Nat → List Nat
  | 0 => []
  | m + 1 => if (sieve m).any (fun q => (m + 2) % q == 0) then sieve m else sieve m ++ [m + 2]
def primesL : List Nat := [2, 3, 5, 7, 11, 13, 17, 19, 23, 29, 31, 37, 41, 43, 47, 53, 59, 61, 67, 71, 73, 79, 83, 89, 97, 101, 103, 107, 109, 113, 127, 131, 137, 139, 149, 151, 157, 163, 167, 173, 179, 181, 191, 193, 197, 199, 211, 223, 227, 229, 233, 239, 241, 251, 257, 263, 269, 271, 277, 281, 283, 293, 307, 311]
theorem sieve_310 : sieve 310 = primesL := by decide +kernel
theorem sieve_309 : (sieve 309).length = 63 := by decide +kernel
theorem sieve_step (m : Nat) : (sieve m).length ≤ (sieve (m + 1)).length := by
  rw [sieve]; split
  · exact Nat.le_refl _
  · simp
theorem sieve_mono (m : Nat) : ∀ k, (sieve m).length ≤ (sieve (m + k)).length
  | 0 => Nat.le_refl _
  | k + 1 => Nat.le_trans (sieve_mono m k) (sieve_step (m + k))
theorem sieve_lt (m : Nat) (h : m < 310) : (sieve m).length < 64 := by
  have := sieve_mono m (309 - m)
  rw [show m + (309 - m) = 309 by omega, sieve_309] at this
  omega
theorem sieve_pos (m : Nat) : ∀ q ∈ sieve m, 2 ≤ q ∧ q ≤ m + 1 := by
  induction m with
  | zero => intro q h; simp [sieve] at h
  | succ m ih =>
    intro q h
    rw [sieve] at h
    split at h
    · have := ih q h; omega
    · rcases List.mem_append.1 h with h | h
      · have := ih q h; omega
      · simp at h; omega
def PrimeRel (w : World) (g : Nat) (l p : Value) (wr : World) : Prop := ∃ m : Nat, m + g = 310 ∧ p = .int .u64 ((m : Int) + 2) ∧ RowE enc64 84 wr w.heap.size l (sieve m) ∧ Below w.heap.size w wr
def OnePrimes (e : TypeId) (xs : List Nat) (w : World) (x : Ending) (w' : World) : Prop := ∃ v, x = .returned v ∧ RowE enc64 e w' w.heap.size v xs ∧ Below w.heap.size w w'
theorem any_take_false {l : List Nat} {p : Nat → Bool} (h : (l.take l.length).any p = false) : l.any p = false := by rwa [List.take_length] at h
theorem any_take_succ {l : List Nat} {p : Nat → Bool} {i : Nat} (hi : i < l.length) (h : (l.take i).any p = false) (h2 : p l[i] = false) : (l.take (i + 1)).any p = false := by
  rw [List.take_succ_eq_append_getElem hi, List.any_append, h, List.any_cons, h2]; rfl
theorem any_at {l : List Nat} {p : Nat → Bool} {i : Nat} (hi : i < l.length) (h2 : p l[i] = true) : l.any p = true := List.any_eq_true.2 ⟨l[i], List.getElem_mem hi, h2⟩
theorem beq_mod (m q : Nat) : ((((m : Int) + 2) % (q : Int)) == 0) = ((m + 2) % q == 0) := by
  have e : ((m : Int) + 2) % (q : Int) = (((m + 2) % q : Nat) : Int) := by simp [Int.natCast_emod]
  rw [e, Bool.eq_iff_iff]
  simp only [beq_iff_eq]
  omega
theorem primes_any (w : World) : Calls Tryz.prog 96 #[.int .i64 64] w (OnePrimes 84 primesL w) := by
  go_enter Tryz.func96, Tryz.ntmps96
  go_wp2
  go_step3
  go_wp2
  go_step3
  go_wp2
  go_loopg [3, 4] 310 (fun g l p wr => PrimeRel w g l p wr)
  case atStart => exact ⟨0, by omega, rfl, RowE.nil _ _, Below.refl _ _⟩
  case round =>
    obtain ⟨m, hm, rfl, hR, hB⟩ := hrel
    have HB := Lib.hid hB
    have HR := Lib.hid hR
    clear hB hR
    cases gk with
    | zero =>
      obtain rfl : m = 310 := by omega
      rw [sieve_310] at HR
      have hlen : primesL.length = 64 := rfl
      obtain ⟨A, cap, rfl, _⟩ := HR.out.slice
      go_wp2
      go_ret
      exact ⟨_, rfl, HR.out, HB.out⟩
    | succ g =>
      have hlt := sieve_lt m (by omega)
      have HS := Lib.hid (show sieve (m + 1) = if (sieve m).any (fun q => (m + 2) % q == 0) then sieve m else sieve m ++ [m + 2] from rfl)
      obtain ⟨A, cap, rfl, hA⟩ := HR.out.slice
      have HA := Lib.hid hA
      have HP := Lib.hid (sieve_pos m)
      obtain ⟨l, hl⟩ : ∃ l, l = sieve m := ⟨_, rfl⟩
      rw [← hl] at HS HR HA HP hlt ⊢
      clear hl hA
      have hm1 : m ≤ 310 := by omega
      go_wp2
      go_loopg [15] l.length (fun g2 i wx => ∃ k : Nat, k + g2 = l.length ∧ i = .int .i64 k ∧ (l.take k).any (fun q => (m + 2) % q == 0) = false ∧ wx = wr)
      case atStart => exact ⟨0, by omega, rfl, by simp, rfl⟩
      case round =>
        obtain ⟨k, hk, rfl, hnd, rfl⟩ := hrel
        have Hnd := Lib.hid hnd
        clear hnd
        cases gk with
        | zero =>
          obtain rfl : k = l.length := by omega
          have hnot := any_take_false Hnd.out
          rw [hnot] at HS
          clear hnot
          go_wp2_with (first
            | (at_builtin; (refine print_append_of (w0 := w) enc64 w.heap.size rfl (.tmp 24) (.tmp 26) 79 84 (.int .u64 0) 8 rfl Tryz.underlying79 info84 rfl (by decide) _ l (m + 2) rfl rfl rfl HR.out HB.out ?s1 ?l1 ?_); (case s1 => exact HB.out.size); (case l1 => omega); intro v1 w2 hR2 hB2 hg hat; have HR2 := Lib.hid (show RowE enc64 84 w2 w.heap.size v1 (l ++ [m + 2]) from hR2); have HB2 := Lib.hid hB2; clear hR2 hB2 hg hat))
          go_roundg g
          case measure => omega
          case rel => exact ⟨m + 1, by omega, by go_num, by rw [HS.out]; exact HR2.out, HB2.out⟩
        | succ g2 =>
          have hkl : k < l.length := by omega
          obtain ⟨b, rfl, hb1, hb2⟩ := HA.out (by omega)
          have hc := (HR.out.cell k hkl).1
          have hq := HP.out l[k] (List.getElem_mem hkl)
          obtain ⟨q, hqe⟩ : ∃ q, q = l[k] := ⟨_, rfl⟩
          rw [← hqe] at hc hq
          unfold enc64 at hc
          cases hd : ((m + 2) % q == 0)
          · have Hd := Lib.hid hd
            have h5 : ((((m : Int) + 2) % (q : Int)) == 0) = false := by rw [beq_mod]; exact Hd.out
            have Hq := Lib.hid hqe
            clear hd hqe
            go_wp2
            go_roundg g2
            case measure => omega
            case rel => exact ⟨k + 1, by omega, by first | rfl | simp, any_take_succ hkl Hnd.out (by rw [← Hq.out]; exact Hd.out), rfl⟩
          · have Hd := Lib.hid hd
            have h5 : ((((m : Int) + 2) % (q : Int)) == 0) = true := by rw [beq_mod]; exact Hd.out
            have hany : l.any (fun q => (m + 2) % q == 0) = true := any_at hkl (by rw [← hqe]; exact hd)
            rw [hany] at HS
            clear hd hqe hany
            go_wp2
            go_roundg g
            case measure => omega
            case rel => exact ⟨m + 1, by omega, by go_num, by rw [HS.out]; exact HR.out, HB.out⟩
end Go.Proofs.YticnmogeknlmeaaGreatDoor.B
