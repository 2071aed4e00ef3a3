/- What parse.read, parse.Prefix, parse.Is give at plain texts; the fixed texts of the laws. -/
import Derived.Test.YtkfpjhjmedodlaaGreatDoorPj
import Derived.Test.YtkfpjhjmedodlaaGreatDoorPi
import Derived.Deep.RegionHeld3
/- parse.read, parse.Prefix, parse.Is, parse.dec at plain texts. -/
set_option maxRecDepth 100000
namespace Go.Proofs.YtkfpjhjmedodlaaGreatDoor
open Go.RowKit Wd
namespace Wd
/-- Is the whole text a number? -/
def rdOk (s : ByteArray) : Bool := decide (0 < (lgD s).1.length) && decide (lgLen s = s.size)
theorem lgV_num (s : ByteArray) : ∃ neg ds fr ex ns, lgV s = numV 0 neg ds fr ex (if 0 < (lgD s).1.length then (lgLen s : Int) else 0) ns := by
  unfold lgV
  split
  · exact ⟨_, _, _, _, _, rfl⟩
  · exact ⟨_, _, _, _, _, rfl⟩
end Wd
/-- read's results. -/
def ReadPost (s : ByteArray) (w : World) (e : Ending) (w' : World) : Prop :=
  e = .returned (.tuple #[lgV s, .bool (rdOk s)]) ∧ Below w.heap.size w w'
set_option maxHeartbeats 4000000 in
theorem read_any (s : ByteArray) (hP : Plain s) (hs : s.size ≤ 1000000) (w : World) :
    Calls Tryz.prog 39 #[.string s] w (ReadPost s w) := by
  have hL := fun w => longest_any s hP hs w
  clear hP
  go_enter Tryz.func39, Tryz.ntmps39
  go_wp2_with fail
  refine (hL _).mono ?_
  clear hL
  rintro e w1 ⟨rfl, hb⟩
  obtain ⟨neg, ds, fr, ex, ns, hV⟩ := lgV_num s
  obtain ⟨ln, hln⟩ : ∃ ln : Int, (if 0 < (lgD s).1.length then (lgLen s : Int) else 0) = ln := ⟨_, rfl⟩
  rw [hln] at hV
  rw [hV]
  unfold numV
  have hb0 : Below w.heap.size w (w.alloc (.cells #[.int .i64 0, .bool false, .string ⟨#[]⟩, .int .i64 0, .int .i64 0, .int .i64 0, .bool false] 92)) := (Below.refl _ w).alloc (Nat.le_refl _) _
  have ho0 : NumB w.heap.size (w.alloc (.cells #[.int .i64 0, .bool false, .string ⟨#[]⟩, .int .i64 0, .int .i64 0, .int .i64 0, .bool false] 92)) 0 false ⟨#[]⟩ 0 0 0 false := by
    show (w.heap.push _)[w.heap.size]? = _
    simp
  have ho1 := ho0.only (Only.of (b := w.heap.size + 1) hb) (by omega)
  have hb1 := hb0.trans (hb.mono hb0.size)
  have hlt : w.heap.size < w1.heap.size := lt_of_block ho1
  clear hb hb0 ho0
  obtain ⟨q, hq⟩ : ∃ q, (ln == (s.size : Int)) = q := ⟨_, rfl⟩
  have HV := Lib.hid (And.intro hV hln)
  clear hV hln
  by_cases hz : 0 < (lgD s).1.length
  all_goals
    have HZ := Lib.hid hz
    first | rw [decide_eq_true hz] | rw [decide_eq_false hz]
    clear hz
    go_wp2_with fail
    generalize hW : w1.alloc _ = W
    have hn : NumB w1.heap.size W 0 neg ds fr ex ln ns := by
      rw [← hW]
      show (w1.heap.push _)[w1.heap.size]? = _
      simp
    have hbW : Below w1.heap.size w1 W := by
      rw [← hW]
      exact (Below.refl _ w1).alloc (Nat.le_refl _) _
    have ho := ho1.only (Only.of (b := w1.heap.size) hbW) (by omega)
    have hbb := hb1.trans (hbW.mono (Nat.le_of_lt hlt))
    clear hW
    have g0 := ho.free 0
    have g1 := ho.free 1
    have g2 := ho.free 2
    have g3 := ho.free 3
    have g4 := ho.free 4
    have g5 := ho.free 5
    have g6 := ho.free 6
    obtain ⟨k0, k1, k2, k3, k4, k5, k6⟩ := ho.cells
    obtain ⟨n0, n1, n2, n3, n4, n5, n6⟩ := hn.cells
    have L20 := ho.sets 0 neg ds fr ex ln ns
    have b20 := below_sets (k := w.heap.size) hbb (Nat.le_refl _) (.int .i64 0) (.bool neg) (.string ds) (.int .i64 fr) (.int .i64 ex) (.int .i64 ln) (.bool ns)
    have H20 := Lib.hid (And.intro L20 b20)
    clear L20 b20 ho hn hbW hbb ho1 hb1
    go_region
    generalize (((((((W.setCell ⟨w.heap.size, 0, none⟩ (.int .i64 0)).setCell ⟨w.heap.size, 1, none⟩ (.bool neg)).setCell ⟨w.heap.size, 2, none⟩ (.string ds)).setCell ⟨w.heap.size, 3, none⟩ (.int .i64 fr)).setCell ⟨w.heap.size, 4, none⟩ (.int .i64 ex)).setCell ⟨w.heap.size, 5, none⟩ (.int .i64 ln)).setCell ⟨w.heap.size, 6, none⟩ (.bool ns)) = W2 at H20 ⊢
    clear g0 g1 g2 g3 g4 g5 g6 k0 k1 k2 k3 k4 k5 k6 n0 n1 n2 n3 n4 n5 n6
    obtain ⟨k0, k1, k2, k3, k4, k5, k6⟩ := H20.out.1.cells
    go_wp2
    (try simp only [Exit.inBlock, Exit.then])
    have hr : rdOk s = (decide (0 < (lgD s).1.length) && q) := by
      unfold rdOk
      by_cases hz : 0 < (lgD s).1.length
      · have hln := HV.out.2
        rw [if_pos hz] at hln
        rw [decide_eq_true hz, Bool.true_and, Bool.true_and, ← hq, ← hln, Bool.eq_iff_iff]
        simp
        omega
      · rw [decide_eq_false hz, Bool.false_and, Bool.false_and]
    first | rw [decide_eq_true HZ.out, Bool.true_and] at hr | rw [decide_eq_false HZ.out, Bool.false_and] at hr
    refine bodyPost_ret (v := .tuple #[numV 0 neg ds fr ex ln ns, .bool (rdOk s)]) ?_ rfl ?_
    · rw [hr]
      simp [results, Tryz.f39, go_sem, k0, k1, k2, k3, k4, k5, k6, numV]
    · exact ⟨by rw [HV.out.1], H20.out.2.trans ((Drew.below ⟨1, rfl⟩).mono H20.out.2.size)⟩
end Go.Proofs.YtkfpjhjmedodlaaGreatDoor

/- parse.Prefix, parse.Is, parse.dec at plain texts. -/
set_option maxRecDepth 100000
namespace Go.Proofs.YtkfpjhjmedodlaaGreatDoor
open Go.RowKit Wd
namespace Wd
/-- How much of the text is a number. -/
def lgN (s : ByteArray) : Int := if 0 < (lgD s).1.length then (lgLen s : Int) else 0
theorem lgV_num' (s : ByteArray) : ∃ neg ds fr ex ns, lgV s = numV 0 neg ds fr ex (lgN s) ns := lgV_num s
end Wd
/-- A value is handed back; the old blocks are as they were. -/
def ValPost (v : Value) (w : World) (e : Ending) (w' : World) : Prop := e = .returned v ∧ Below w.heap.size w w'
set_option maxHeartbeats 2000000 in
theorem is_any (s : ByteArray) (hP : Plain s) (hs : s.size ≤ 1000000) (w : World) :
    Calls Tryz.prog 24 #[.string s] w (ValPost (.bool (rdOk s)) w) := by
  have hL := fun w => read_any s hP hs w
  clear hP
  go_enter Tryz.func24, Tryz.ntmps24
  go_wp2_with fail
  refine (hL _).mono ?_
  clear hL
  rintro e w1 ⟨rfl, hb⟩
  obtain ⟨neg, ds, fr, ex, ns, hV⟩ := lgV_num s
  rw [hV]
  unfold numV
  clear hV
  generalize (if 0 < (lgD s).1.length then (lgLen s : Int) else 0) = ln
  obtain ⟨q, hq⟩ : ∃ q, rdOk s = q := ⟨_, rfl⟩
  rw [hq]
  have HQ := Lib.hid hq
  clear hq
  have HB := Lib.hid hb
  clear hb
  go_wp2
  go_ret
  exact ⟨by rw [HQ.out]; rfl, HB.out.trans ((Below.refl _ w1).alloc HB.out.size _)⟩

set_option maxHeartbeats 2000000 in
theorem prefix_any (s : ByteArray) (hP : Plain s) (hs : s.size ≤ 1000000) (w : World) :
    Calls Tryz.prog 25 #[.string s] w (ValPost (.int .i64 (lgN s)) w) := by
  have hL := fun w => longest_any s hP hs w
  clear hP
  go_enter Tryz.func25, Tryz.ntmps25
  go_wp2_with fail
  refine (hL _).mono ?_
  clear hL
  rintro e w1 ⟨rfl, hb⟩
  obtain ⟨neg, ds, fr, ex, ns, hV⟩ := lgV_num' s
  rw [hV]
  unfold numV
  clear hV
  obtain ⟨ln, hln⟩ : ∃ ln : Int, lgN s = ln := ⟨_, rfl⟩
  rw [hln]
  have HL := Lib.hid hln
  have HB := Lib.hid hb
  clear hb
  by_cases hz : 0 < (lgD s).1.length
  · clear hln
    rw [decide_eq_true hz]
    clear hz
    go_wp2
    go_ret
    exact ⟨by rw [HL.out]; rfl, HB.out.trans ((Below.refl _ w1).alloc HB.out.size _)⟩
  · have HZ : Hid (lgN s = 0) := by unfold lgN; exact if_neg hz
    clear hln
    rw [decide_eq_false hz]
    clear hz
    go_wp2
    go_ret
    exact ⟨by rw [HZ.out]; rfl, HB.out.trans ((Below.refl _ w1).alloc HB.out.size _)⟩
namespace Wd
def zeroN : Value := numV 0 false ⟨#[]⟩ 0 0 0 false
theorem NumB.val {k : Nat} {w : World} {kind : Int} {neg : Bool} {ds : ByteArray} {fr ex len : Int} {ns : Bool} (h : NumB k w kind neg ds fr ex len ns) (fn : Func) (t u : Tmp) (hf : fn.results = #[.cell t 92, .tmp u]) (tmps : Array Value) (ht : tmps.getD t undef = .pointer (some ⟨k, 0, none⟩)) :
    (results fn tmps).run Tryz.prog w = .ok (.tuple #[numV kind neg ds fr ex len ns, tmps.getD u undef]) w := by
  obtain ⟨k0, k1, k2, k3, k4, k5, k6⟩ := h.cells
  have ht' : tmps[t]?.getD undef = .pointer (some ⟨k, 0, none⟩) := by simpa using ht
  simp [results, hf, ht', go_sem, k0, k1, k2, k3, k4, k5, k6, numV]
end Wd
set_option maxHeartbeats 2000000 in
theorem dec_long (s : ByteArray) (hs : 65536 < s.size) (hs2 : s.size ≤ 1000000000) (w : World) :
    Calls Tryz.prog 71 #[.string s] w (ValPost (.tuple #[zeroN, .int .i64 2]) w) := by
  have h65 : (65536 : Int) < (s.size : Int) := by omega
  clear hs hs2
  go_enter Tryz.func71, Tryz.ntmps71
  have ho : NumB w.heap.size (w.alloc (.cells #[.int .i64 0, .bool false, .string ⟨#[]⟩, .int .i64 0, .int .i64 0, .int .i64 0, .bool false] 92)) 0 false ⟨#[]⟩ 0 0 0 false := by
    show (w.heap.push _)[w.heap.size]? = _
    simp
  have H20 := Lib.hid ho
  clear ho
  go_wp2
  (try simp only [Exit.inBlock, Exit.then])
  refine bodyPost_ret (H20.out.val Tryz.f71 _ _ rfl _ rfl) rfl ?_
  exact ⟨rfl, (Below.refl _ w).alloc (Nat.le_refl _) _⟩

set_option maxHeartbeats 4000000 in
theorem dec_ok (s : ByteArray) (hP : Plain s) (hs : s.size ≤ 65536) (hok : rdOk s = true) (w : World) :
    Calls Tryz.prog 71 #[.string s] w (ValPost (.tuple #[lgV s, .int .i64 0]) w) := by
  have hL := fun w => read_any s hP (by omega) w
  clear hP
  go_enter Tryz.func71, Tryz.ntmps71
  have ho0 : NumB w.heap.size (w.alloc (.cells #[.int .i64 0, .bool false, .string ⟨#[]⟩, .int .i64 0, .int .i64 0, .int .i64 0, .bool false] 92)) 0 false ⟨#[]⟩ 0 0 0 false := by
    show (w.heap.push _)[w.heap.size]? = _
    simp
  have hb0 : Below w.heap.size w (w.alloc (.cells #[.int .i64 0, .bool false, .string ⟨#[]⟩, .int .i64 0, .int .i64 0, .int .i64 0, .bool false] 92)) := (Below.refl _ w).alloc (Nat.le_refl _) _
  have H0 := Lib.hid (And.intro ho0 hb0)
  clear ho0 hb0
  go_wp2_with fail
  refine (hL _).mono ?_
  clear hL
  rintro e w1 ⟨rfl, hb⟩
  obtain ⟨neg, ds, fr, ex, ns, hV⟩ := lgV_num' s
  generalize lgN s = ln at hV
  rw [hV, hok]
  have HQ := Lib.hid (And.intro hV hok)
  clear hV hok
  unfold numV
  have ho1 := H0.out.1.only (Only.of (b := w.heap.size + 1) hb) (by omega)
  have hb1 := H0.out.2.trans (hb.mono H0.out.2.size)
  have hlt : w.heap.size < w1.heap.size := lt_of_block ho1
  obtain ⟨W, hW⟩ : ∃ W, w1.alloc (.cells #[.int .i64 0, .bool neg, .string ds, .int .i64 fr, .int .i64 ex, .int .i64 ln, .bool ns] 92) = W := ⟨_, rfl⟩
  have hn : NumB w1.heap.size W 0 neg ds fr ex ln ns := by
    rw [← hW]
    show (w1.heap.push _)[w1.heap.size]? = _
    simp
  have hbW : Below w1.heap.size w1 W := by
    rw [← hW]
    exact (Below.refl _ w1).alloc (Nat.le_refl _) _
  have ho := ho1.only (Only.of (b := w1.heap.size) hbW) (by omega)
  have hbb := hb1.trans (hbW.mono (Nat.le_of_lt hlt))
  have g0 := ho.free 0
  have g1 := ho.free 1
  have g2 := ho.free 2
  have g3 := ho.free 3
  have g4 := ho.free 4
  have g5 := ho.free 5
  have g6 := ho.free 6
  obtain ⟨k0, k1, k2, k3, k4, k5, k6⟩ := ho.cells
  obtain ⟨n0, n1, n2, n3, n4, n5, n6⟩ := hn.cells
  have H20 := Lib.hid (And.intro (ho.sets 0 neg ds fr ex ln ns) (below_sets (k := w.heap.size) hbb (Nat.le_refl _) (.int .i64 0) (.bool neg) (.string ds) (.int .i64 fr) (.int .i64 ex) (.int .i64 ln) (.bool ns)))
  clear ho hn hbW hbb ho1 hb1 hb H0
  go_wp2
  (try simp only [Exit.inBlock, Exit.then])
  refine bodyPost_ret (H20.out.1.val Tryz.f71 _ _ rfl _ rfl) rfl ?_
  exact ⟨by rw [HQ.out.1]; rfl, H20.out.2⟩

set_option maxHeartbeats 4000000 in
theorem dec_bad (s : ByteArray) (hP : Plain s) (hs : s.size ≤ 65536) (hok : rdOk s = false) (w : World) :
    Calls Tryz.prog 71 #[.string s] w (ValPost (.tuple #[zeroN, .int .i64 6]) w) := by
  have hL := fun w => read_any s hP (by omega) w
  clear hP
  go_enter Tryz.func71, Tryz.ntmps71
  have ho0 : NumB w.heap.size (w.alloc (.cells #[.int .i64 0, .bool false, .string ⟨#[]⟩, .int .i64 0, .int .i64 0, .int .i64 0, .bool false] 92)) 0 false ⟨#[]⟩ 0 0 0 false := by
    show (w.heap.push _)[w.heap.size]? = _
    simp
  have hb0 : Below w.heap.size w (w.alloc (.cells #[.int .i64 0, .bool false, .string ⟨#[]⟩, .int .i64 0, .int .i64 0, .int .i64 0, .bool false] 92)) := (Below.refl _ w).alloc (Nat.le_refl _) _
  have H0 := Lib.hid (And.intro ho0 hb0)
  clear ho0 hb0
  go_wp2_with fail
  refine (hL _).mono ?_
  clear hL
  rintro e w1 ⟨rfl, hb⟩
  obtain ⟨neg, ds, fr, ex, ns, hV⟩ := lgV_num' s
  generalize lgN s = ln at hV
  rw [hV, hok]
  clear hV hok
  unfold numV
  have ho1 := H0.out.1.only (Only.of (b := w.heap.size + 1) hb) (by omega)
  have hb1 := H0.out.2.trans (hb.mono H0.out.2.size)
  have hlt : w.heap.size < w1.heap.size := lt_of_block ho1
  obtain ⟨W, hW⟩ : ∃ W, w1.alloc (.cells #[.int .i64 0, .bool neg, .string ds, .int .i64 fr, .int .i64 ex, .int .i64 ln, .bool ns] 92) = W := ⟨_, rfl⟩
  have hbW : Below w1.heap.size w1 W := by
    rw [← hW]
    exact (Below.refl _ w1).alloc (Nat.le_refl _) _
  have ho := ho1.only (Only.of (b := w1.heap.size) hbW) (by omega)
  have hbb := hb1.trans (hbW.mono (Nat.le_of_lt hlt))
  have g0 := ho.free 0
  have g1 := ho.free 1
  have g2 := ho.free 2
  have g3 := ho.free 3
  have g4 := ho.free 4
  have g5 := ho.free 5
  have g6 := ho.free 6
  obtain ⟨k0, k1, k2, k3, k4, k5, k6⟩ := ho.cells
  have H20 := Lib.hid (And.intro (ho.sets 0 false ⟨#[]⟩ 0 0 0 false) (below_sets (k := w.heap.size) hbb (Nat.le_refl _) (.int .i64 0) (.bool false) (.string ⟨#[]⟩) (.int .i64 0) (.int .i64 0) (.int .i64 0) (.bool false)))
  clear ho hbW hbb ho1 hb1 hb H0
  go_wp2
  (try simp only [Exit.inBlock, Exit.then])
  refine bodyPost_ret (H20.out.1.val Tryz.f71 _ _ rfl _ rfl) rfl ?_
  exact ⟨rfl, H20.out.2⟩
end Go.Proofs.YtkfpjhjmedodlaaGreatDoor

/- parse.number.mag at a decimal number. -/
set_option maxRecDepth 100000
namespace Go.Proofs.YtkfpjhjmedodlaaGreatDoor
open Go.RowKit Wd
/-- mag's results. -/
def MagPost (n : Nat) (e : Int) (w : World) (en : Ending) (w' : World) : Prop := ∃ v, en = .returned (.tuple #[v, .int .i64 e]) ∧ Own w.heap.size w' v (wd n) ∧ Below w.heap.size w w'
set_option maxHeartbeats 4000000 in
theorem mag_any (neg : Bool) (ds : ByteArray) (fr ex len : Int) (ns : Bool) (hd : Digs 10 ds.data.toList) (hs : ds.size ≤ 1000000) (r : Int) (hr : IntKind.i64.wrap (ex - fr) = r) (w : World) :
    Calls Tryz.prog 40 #[numV 0 neg ds fr ex len ns] w (MagPost (valBase 10 ds.data.toList) r w) := by
  unfold numV
  go_enter Tryz.func40, Tryz.ntmps40
  obtain ⟨W, hW⟩ : ∃ W, w.alloc (.cells #[.int .i64 0, .bool neg, .string ds, .int .i64 fr, .int .i64 ex, .int .i64 len, .bool ns] 92) = W := ⟨_, rfl⟩
  have hn : NumB w.heap.size W 0 neg ds fr ex len ns := by
    rw [← hW]
    exact heap_alloc_new w _
  have hb : Below w.heap.size w W := by
    rw [← hW]
    exact (Below.refl _ w).alloc (Nat.le_refl _) _
  obtain ⟨k0, k1, k2, k3, k4, k5, k6⟩ := hn.cells
  go_wp2
  clear hW
  have hdr : Below W.heap.size W W.drew := Drew.below ⟨1, rfl⟩
  have hlt : w.heap.size < W.heap.size := lt_of_block hn
  have hF := fromBase_any W.drew ds 10 (by decide) hd hs
  have HB := Lib.hid (And.intro hb (And.intro hdr hlt))
  clear hb hdr hlt hn
  go_region_held3 (fun w' => w'.cell? ⟨w.heap.size, 2, none⟩ = some (.string ds) ∧ w'.cell? ⟨w.heap.size, 3, none⟩ = some (.int .i64 fr) ∧ w'.cell? ⟨w.heap.size, 4, none⟩ = some (.int .i64 ex)) (go_keep) (first | (go_at_call 98; refine hF.mono ?_; rintro e w5 ⟨v5, rfl, ho5, b5⟩; have x2 := cell_keep b5 (show W.drew.cell? ⟨w.heap.size, 2, none⟩ = _ from k2); have x3 := cell_keep b5 (show W.drew.cell? ⟨w.heap.size, 3, none⟩ = _ from k3); have x4 := cell_keep b5 (show W.drew.cell? ⟨w.heap.size, 4, none⟩ = _ from k4)))
  have H := Lib.hid (And.intro ho5 b5)
  clear ho5 b5 x2 x3 x4 k0 k1 k2 k3 k4 k5 k6 hF
  go_wp2
  go_ret2
  obtain ⟨hb, hdr, hlt⟩ := HB.out
  have hle : w.heap.size ≤ W.drew.heap.size := Nat.le_of_lt (Nat.lt_of_lt_of_le hlt hdr.size)
  exact ⟨_, rfl, H.out.1.mono hle, (hb.trans (hdr.mono (Nat.le_of_lt hlt))).trans (H.out.2.mono hle)⟩
end Go.Proofs.YtkfpjhjmedodlaaGreatDoor

/- The fixed texts of the laws: 0.1, 123456, -1.20, 1e+x, +nan. -/
set_option maxRecDepth 100000
namespace Go.Proofs.YtkfpjhjmedodlaaGreatDoor
open Go.RowKit Wd
namespace Wd
def t01 : ByteArray := ⟨#[48, 46, 49]⟩
def t123 : ByteArray := ⟨#[49, 50, 51, 52, 53, 54]⟩
def t120 : ByteArray := ⟨#[45, 49, 46, 50, 48]⟩
def t1e : ByteArray := ⟨#[49, 101, 43, 120]⟩
def tnan : ByteArray := ⟨#[43, 110, 97, 110]⟩
theorem plain01 : Plain t01 := ⟨asc_of (by decide), by decide, by decide, .inr (by decide), by decide⟩
theorem plain123 : Plain t123 := ⟨asc_of (by decide), by decide, by decide, .inr (by decide), by decide⟩
theorem plain120 : Plain t120 := ⟨asc_of (by decide), by decide, by decide, .inl (by decide), by decide⟩
theorem plain1e : Plain t1e := ⟨asc_of (by decide), by decide, by decide, .inr (by decide), by decide⟩
theorem plainnan : Plain tnan := ⟨asc_of (by decide), by decide, by decide, .inl (by decide), by decide⟩
theorem lgV01 : lgV t01 = numV 0 false ⟨#[48, 49]⟩ 1 0 3 true := by rfl
theorem lgV123 : lgV t123 = numV 0 false ⟨#[49, 50, 51, 52, 53, 54]⟩ 0 0 6 true := by rfl
theorem lgV120 : lgV t120 = numV 0 true ⟨#[49, 50, 48]⟩ 2 0 5 false := by rfl
theorem rd01 : rdOk t01 = true := by decide
theorem rd123 : rdOk t123 = true := by decide
theorem rd120 : rdOk t120 = true := by decide
theorem rdnan : rdOk tnan = false := by decide
theorem lgN1e : lgN t1e = 1 := by decide
theorem digs01 : Digs 10 [48, 49] := fun c h => by revert c; decide
theorem digs123 : Digs 10 [49, 50, 51, 52, 53, 54] := fun c h => by revert c; decide
theorem digs120 : Digs 10 [49, 50, 48] := fun c h => by revert c; decide
theorem val01 : valBase 10 [48, 49] = 1 := by decide
theorem val123 : valBase 10 [49, 50, 51, 52, 53, 54] = 123456 := by decide
theorem val120 : valBase 10 [49, 50, 48] = 120 := by decide
end Wd
end Go.Proofs.YtkfpjhjmedodlaaGreatDoor
