/- Helper: an image comes in pieces, plainly. No condition. -/
import Derived.Test.YticnmogeknlmeaaGreatDoorQ31
namespace Go.Proofs.YticnmogeknlmeaaGreatDoor.B
open Go.RowKit Go.Maps
/-- Of an image so much has come. -/
def US.mid (x : US) (m : Man) (s : List UInt8) (g : Nat) : US := { x with im := setB x.im (!x.b.ac) (s.take g), b := { x.b with gd := false, vo := m.v }, pn := some (m, g) }
theorem US.inst_mid {x : US} {m : Man} (s : List UInt8) (hm : m.Ok) (hn : m.n ≤ 64 * x.pg) (ht : x.b.tr = false) (hl : x.b.ls ≤ m.v) : x.install (manT m) = (0, x.mid m s 0) := by
  rw [US.install_eq hm hn ht hl]
  rfl
theorem US.chunk_mid {x : US} {m : Man} {s : List UInt8} {g n : Nat} (hm : m.n = s.length) (h0 : 0 < n) (hg : g + n ≤ s.length) (h4 : n ≤ 256) (h6 : n % 64 = 0 ∨ g + n = s.length) : (x.mid m s g).chunk (g : Int) ((s.drop g).take n) = (0, x.mid m s (g + n)) := by
  have hl : ((s.drop g).take n).length = n := by rw [List.length_take, List.length_drop]; omega
  rw [US.chunk_eq (x := x.mid m s g) (m := m) (g := g) (s := (s.drop g).take n) rfl (by intro e; rw [e] at hl; simp at hl; omega) (by omega) (by omega) (by omega)]
  unfold US.mid
  show ((0 : Int), ({ x with im := setB (setB x.im (!x.b.ac) (s.take g)) (!x.b.ac) (setB x.im (!x.b.ac) (s.take g) (!x.b.ac) ++ (s.drop g).take n), b := { x.b with gd := false, vo := m.v }, pn := some (m, g + ((s.drop g).take n).length) } : US)) = _
  rw [setB_twice, setB_same, hl, ← List.take_add]
theorem US.fin_mid {x : US} {m : Man} {s : List UInt8} (hm : m.n = s.length) (hd : shaL s = m.d) (ht : x.b.tr = false) (hv : x.b.ls ≤ m.v) : (x.mid m s s.length).finalize = (0, { x with im := setB x.im (!x.b.ac) s, m := setB x.m (!x.b.ac) (some m), b := { x.b with gd := true, vo := m.v }, pn := none }) := by
  have hi : (x.mid m s s.length).im (!(x.mid m s s.length).b.ac) = s := by
    show setB x.im (!x.b.ac) (s.take s.length) (!x.b.ac) = s
    rw [setB_same, List.take_length]
  rw [US.fin_eq (x := x.mid m s s.length) (m := m) (by rw [hm]; rfl) (by rw [hi]; exact hd) ht hv]
  unfold US.mid
  rw [List.take_length]
theorem US.fin_mid_bad {x : US} {m : Man} {s : List UInt8} (hm : m.n = s.length) (hd : shaL s ≠ m.d) : (x.mid m s s.length).finalize = (223, x.mid m s s.length) := by
  have hi : (x.mid m s s.length).im (!(x.mid m s s.length).b.ac) = s := by
    show setB x.im (!x.b.ac) (s.take s.length) (!x.b.ac) = s
    rw [setB_same, List.take_length]
  rw [US.fin_dig (x := x.mid m s s.length) (m := m) (by rw [hm]; rfl) (by rw [hi]; exact hd)]
end Go.Proofs.YticnmogeknlmeaaGreatDoor.B
