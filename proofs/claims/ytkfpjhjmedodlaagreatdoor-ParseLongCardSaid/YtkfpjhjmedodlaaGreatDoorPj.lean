/- What the reader of package parse gives at plain texts. -/
import Derived.Test.YtkfpjhjmedodlaaGreatDoorPi
import Derived.Deep.LoopGhost
/- parse.reader: digits. -/
set_option maxRecDepth 100000
namespace Go.Proofs.YtkfpjhjmedodlaaGreatDoor
open Go.RowKit Wd
namespace Wd
/-- The scan of a row of digits with at most one point: the digits, how many stand behind the point, the place behind. -/
def dscan (s : ByteArray) (x : Bool) : Nat → Nat → Bool → List UInt8 → Nat → List UInt8 × Nat × Nat
  | 0, p, _, acc, fr => (acc, fr, p)
  | n + 1, p, dot, acc, fr => if isdig (nx s p) x = true then dscan s x n (p + 1) dot (acc ++ [UInt8.ofNat (nx s p)]) (if dot = true then fr + 1 else fr) else if nx s p = 46 ∧ dot = false then dscan s x n (p + 1) true acc fr else (acc, fr, p)
def digs (s : ByteArray) (x : Bool) (p : Nat) : List UInt8 × Nat × Nat := dscan s x (s.size - p) p false [] 0
theorem dscan_dig {s : ByteArray} {x : Bool} {p : Nat} (hp : p < s.size) {dot : Bool} {acc : List UInt8} {fr : Nat} (h : isdig (nx s p) x = true) :
    dscan s x (s.size - p) p dot acc fr = dscan s x (s.size - (p + 1)) (p + 1) dot (acc ++ [UInt8.ofNat (nx s p)]) (if dot = true then fr + 1 else fr) := by
  rw [show s.size - p = s.size - (p + 1) + 1 by omega, dscan, if_pos h]
theorem dscan_dot {s : ByteArray} {x : Bool} {p : Nat} (hp : p < s.size) {acc : List UInt8} {fr : Nat} (h : ¬ isdig (nx s p) x = true) (h2 : nx s p = 46) :
    dscan s x (s.size - p) p false acc fr = dscan s x (s.size - (p + 1)) (p + 1) true acc fr := by
  rw [show s.size - p = s.size - (p + 1) + 1 by omega, dscan, if_neg h, if_pos ⟨h2, rfl⟩]
theorem dscan_end {s : ByteArray} {x : Bool} {p : Nat} {dot : Bool} {acc : List UInt8} {fr : Nat} (h : ¬ isdig (nx s p) x = true) (h2 : ¬ (nx s p = 46 ∧ dot = false)) :
    dscan s x (s.size - p) p dot acc fr = (acc, fr, p) := by
  cases hn : s.size - p with
  | zero => rfl
  | succ n => rw [dscan, if_neg h, if_neg h2]
theorem isdig_zero (x : Bool) : isdig 0 x = false := by cases x <;> rfl
theorem isdig_46 (x : Bool) : isdig 46 x = false := by cases x <;> rfl
theorem nx_pos {s : ByteArray} {p : Nat} (h : nx s p ≠ 0) : p < s.size := by
  rcases Nat.lt_or_ge p s.size with h1 | h1
  · exact h1
  · exact absurd (nx_end h1) h
abbrev BAt (B b : Nat) (l : List UInt8) (w : World) : Prop := Lib.IsBuilder 130 5 B b (Lib.byteCells l) w
theorem BAt.drew {B b : Nat} {l : List UInt8} {w w' : World} (h : BAt B b l w) (hd : Drew w w') : BAt B b l w' := by
  obtain ⟨n, rfl⟩ := hd
  exact h
theorem BAt.set {B b r : Nat} {l : List UInt8} {w : World} (h : BAt B b l w) (hr : r < B) (o : Nat) (u : Value) : BAt B b l (w.setCell ⟨r, o, none⟩ u) := by
  have key : ∀ p, Lib.BuilderAt 130 5 B b p (Lib.byteCells l) w → Lib.BuilderAt 130 5 B b p (Lib.byteCells l) (w.setCell ⟨r, o, none⟩ u) := fun p hp => by
    obtain ⟨hB, v, hb, hown, hne⟩ := hp
    refine ⟨hB, v, (Below.heap_setCell _ _ _ _ (by simp; omega)).trans hb, ownsRow_setCell_other hown (fun e => ?_) _, hne⟩
    have := hown.lt r e
    omega
  rcases h with h | h
  · exact .inl (key _ h)
  · exact .inr (key _ h)
theorem Only.then {b B : Nat} {w w1 w2 : World} (h : Only b w w1) (hB : w.heap.size ≤ B) (k : Below B w1 w2) : Only b w w2 :=
  ⟨k.os.trans h.os, k.tape.trans h.tape, k.output.trans h.output, Nat.le_trans h.size k.size, fun i hi hb => (k.block i (by omega)).trans (h.block i hi hb)⟩
end Wd
/-- digits' results and what is left. -/
def DigsPost (b : Nat) (s : ByteArray) (x : Bool) (p : Nat) (w : World) (e : Ending) (w' : World) : Prop :=
  e = .returned (.tuple #[.string ⟨(digs s x p).1.toArray⟩, .int .i64 (digs s x p).2.1, .bool (decide (0 < (digs s x p).1.length))]) ∧ RdB b w' s (digs s x p).2.2 ∧ Only b w w'

set_option maxHeartbeats 4000000 in
theorem digits_rd {b : Nat} {w : World} {s : ByteArray} {p : Nat} (h : RdB b w s p) (x : Bool) :
    Calls Tryz.prog 140 #[.pointer (some ⟨b, 0, none⟩), .bool x] w (DigsPost b s x p w) := by
  have hlt := h.lt
  have hsz := h.2.2
  have HI := Lib.hid h
  clear h
  go_enter Tryz.func140, Tryz.ntmps140
  go_wp2
  go_loopg [5, 8] (s.size - p) (fun k s5 s8 wr => ∃ (q : Nat) (dot : Bool) (acc : List UInt8) (fr : Nat), s5 = .int .i64 fr ∧ s8 = .bool dot ∧ RdB b wr s q ∧ BAt w.heap.size w.heap.size acc wr ∧ Only b w wr ∧ dscan s x (s.size - q) q dot acc fr = digs s x p ∧ fr ≤ q ∧ acc.length ≤ q ∧ s.size - q ≤ k)
  case atStart =>
    have h := HI.out
    refine ⟨p, false, [], 0, rfl, rfl, h.below (n := w.heap.size) hlt ((Below.refl _ w).alloc (Nat.le_refl _) _), Lib.fresh_isBuilder _ _ w, Only.of ((Below.refl _ w).alloc (Nat.le_refl _) _), rfl, by omega, by simp, Nat.le_refl _⟩
  case round =>
    obtain ⟨q, dot, acc, fr, rfl, rfl, hr, hB, ho, hds, hfr, hac, hk⟩ := hrel
    have hq := hr.2.1
    have hn := next_any hr
    by_cases hd : isdig (nx s q) x = true
    · have hn46 : ((nx s q : Int) == 46) = false := beq_eq_false_iff_ne.2 (fun e => by
        have : nx s q = 46 := by omega
        rw [this, isdig_46] at hd
        simp at hd)
      have hqs : q < s.size := nx_pos (fun e => by rw [e, isdig_zero] at hd; simp at hd)
      have hst := dscan_dig hqs (dot := dot) (acc := acc) (fr := fr) hd
      have h256 := nx_lt s q
      have HH := Lib.hid (And.intro ho (And.intro hds (And.intro hst (And.intro hac hk))))
      have hwf : IntKind.i64.wrap ((fr : Int) + 1) = ((fr + 1 : Nat) : Int) := by rw [IntKind.wrap_i64]; omega
      have hwq : IntKind.i64.wrap ((q : Int) + 1) = ((q + 1 : Nat) : Int) := by rw [IntKind.wrap_i64]; omega
      clear ho hds hst hac hk
      go_wp2_with fail
      refine hn.mono ?_
      rintro e w1 ⟨rfl, d1⟩
      have hr1 := hr.drew d1
      have hB1 := hB.drew d1
      have hn1 := next_any hr1
      have H1 := Lib.hid d1
      clear hn hr hB d1
      go_wp2_with fail
      refine (digit_any _ x _).mono ?_
      rintro e w2 ⟨rfl, rfl⟩
      rw [hd]
      have HD := Lib.hid hd
      clear hd
      go_wp2_with fail
      refine hn1.mono ?_
      rintro e w2 ⟨rfl, d2⟩
      have hr2 := hr1.drew d2
      have hB2 := hB1.drew d2
      have hn2 := next_any hr2
      have H2 := Lib.hid d2
      clear hn1 hr1 hB1 d2
      go_wp2_with fail
      refine hn2.mono ?_
      rintro e w3 ⟨rfl, d3⟩
      have hr3 := hr2.drew d3
      have hB3 := hB2.drew d3
      have hwb := writeByte_any w.heap.size w.heap.size (Lib.byteCells acc) (nx s q) w3 hB3 (by rw [Lib.byteCells_length]; have := HH.out.2.2.2.1; omega) (((HH.out.1.trans (Only.drew H1.out)).trans (Only.drew H2.out)).trans (Only.drew d3)).size
      have H3 := Lib.hid d3
      clear hn2 hr2 hB2 d3 hB3
      go_wp2_with fail
      refine hwb.mono ?_
      rintro e w4 ⟨rfl, hB4, b4⟩
      have hr4 := hr3.below hlt b4
      have c1 := hr4.c1
      have f1 := hr4.f1
      have H4 := Lib.hid (And.intro hB4 (And.intro b4 hr4))
      clear hwb hB4 b4 hr4 hr3
      cases dot
      all_goals
        go_wp2
        go_roundg (s.size - (q + 1))
        case measure => have := HH.out; omega
        case rel =>
          obtain ⟨ho, hds, hst, hac, hk⟩ := HH.out
          obtain ⟨hB4, b4, hr4⟩ := H4.out
          have e1 : Lib.byteCells acc ++ [Value.int .u8 (nx s q)] = Lib.byteCells (acc ++ [UInt8.ofNat (nx s q)]) := by
            simp [Lib.byteCells, Nat.mod_eq_of_lt h256]
          rw [e1] at hB4
          refine ⟨q + 1, _, acc ++ [UInt8.ofNat (nx s q)], _, rfl, rfl, hr4.set (q + 1) hqs, BAt.set (.inr hB4) hlt 1 _, ?_, (hst.symm.trans hds), by first | omega | (simp; omega), by simp; omega, Nat.le_refl _⟩
          exact (((((ho.trans (Only.drew H1.out)).trans (Only.drew H2.out)).trans (Only.drew H3.out)).then (Nat.le_refl _) b4).trans (Only.set b w4 1 _))
    · by_cases h46 : nx s q = 46 ∧ dot = false
      · obtain ⟨h46, rfl⟩ := h46
        have hn46 : ((nx s q : Int) == 46) = true := beq_iff_eq.2 (by omega)
        have hqs : q < s.size := nx_pos (by omega)
        have hst := dscan_dot hqs (acc := acc) (fr := fr) hd h46
        have HH := Lib.hid (And.intro ho (And.intro hds (And.intro hst (And.intro hac (And.intro hk (And.intro hfr h46))))))
        have hwq : IntKind.i64.wrap ((q : Int) + 1) = ((q + 1 : Nat) : Int) := by rw [IntKind.wrap_i64]; omega
        have hdf : isdig (nx s q) x = false := by simpa using hd
        clear ho hds hst hac hk h46 hfr
        go_wp2_with fail
        refine hn.mono ?_
        rintro e w1 ⟨rfl, d1⟩
        have hr1 := hr.drew d1
        have hB1 := hB.drew d1
        have hn1 := next_any hr1
        have H1 := Lib.hid d1
        clear hn hr hB d1
        go_wp2_with fail
        refine (digit_any _ x _).mono ?_
        rintro e w2 ⟨rfl, rfl⟩
        rw [hdf]
        have HD := Lib.hid hd
        clear hd hdf
        go_wp2_with fail
        refine hn1.mono ?_
        rintro e w2 ⟨rfl, d2⟩
        have hr2 := hr1.drew d2
        have hB2 := hB1.drew d2
        have hn2 := next_any hr2
        have H2 := Lib.hid d2
        clear hn1 hr1 hB1 d2
        go_wp2_with fail
        refine hn2.mono ?_
        rintro e w3 ⟨rfl, d3⟩
        have hr3 := hr2.drew d3
        have hB3 := hB2.drew d3
        have c1 := hr3.c1
        have f1 := hr3.f1
        have H3 := Lib.hid (And.intro d3 (And.intro hB3 hr3))
        clear hn2 hr2 hB2 d3 hB3 hr3
        go_wp2
        go_roundg (s.size - (q + 1))
        case measure => have := HH.out; omega
        case rel =>
          obtain ⟨ho, hds, hst, hac, hk, hfr, h46⟩ := HH.out
          obtain ⟨d3, hB3, hr3⟩ := H3.out
          exact ⟨q + 1, true, acc, fr, rfl, rfl, hr3.set (q + 1) hqs, hB3.set hlt 1 _, (((ho.trans (Only.drew H1.out)).trans (Only.drew H2.out)).trans (Only.drew d3)).trans (Only.set b w3 1 _), hst.symm.trans hds, by omega, by omega, Nat.le_refl _⟩
      · have hst := dscan_end (acc := acc) (fr := fr) hd h46
        have hres := hst.symm.trans hds
        have HF : Hid (∀ w', RdB b w' s q → Only b w w' → DigsPost b s x p w (.returned (.tuple #[.string ⟨acc.toArray⟩, .int .i64 fr, .bool (decide (0 < acc.length))])) w') := fun w' h1 h2 => by
          unfold DigsPost
          rw [← hres]
          exact ⟨rfl, h1, h2⟩
        have hdf : isdig (nx s q) x = false := by simpa using hd
        have HH := Lib.hid ho
        have hl := Lib.byteCells_length acc
        clear hst hres hds hd ho hk hfr
        go_wp2_with fail
        refine hn.mono ?_
        rintro e w1 ⟨rfl, d1⟩
        have hr1 := hr.drew d1
        have hB1 := hB.drew d1
        have hn1 := next_any hr1
        have H1 := Lib.hid d1
        clear hn hr hB d1
        go_wp2_with fail
        refine (digit_any _ x _).mono ?_
        rintro e w2 ⟨rfl, rfl⟩
        rw [hdf]
        clear hdf
        go_wp2_with fail
        refine hn1.mono ?_
        rintro e w2 ⟨rfl, d2⟩
        have hr2 := hr1.drew d2
        have hB2 := hB1.drew d2
        have hS := Tryz.Builder_String_any_f w.heap.size w.heap.size acc w2 (Lib.IsBuilderF.of hB2) (((HH.out.trans (Only.drew H1.out)).trans (Only.drew d2)).size)
        have hk2 := hr2.lt
        have H2 := Lib.hid (And.intro d2 hr2)
        clear hn1 hr1 hB1 d2 hB2 hr2
        by_cases hq46 : nx s q = 46
        · have hdt : dot = true := by
            cases dot
            · exact absurd ⟨hq46, rfl⟩ h46
            · rfl
          subst hdt
          have hn46 : ((nx s q : Int) == 46) = true := beq_iff_eq.2 (by omega)
          clear h46 hq46
          go_wp2_with fail
          refine hS.mono ?_
          rintro e w3 ⟨rfl, hF3, b3⟩
          have hL := Tryz.Builder_Len_f w.heap.size w.heap.size _ w3 hF3
          have H3 := Lib.hid b3
          clear hS hF3 b3
          go_wp2_with fail
          refine hL.mono ?_
          rintro e w4 ⟨rfl, hw⟩
          subst hw
          rw [hl]
          clear hL hl
          go_wp2
          go_ret3
          obtain ⟨d2, hr2⟩ := H2.out
          have hon := ((HH.out.trans (Only.drew H1.out)).trans (Only.drew d2))
          have := HF.out w4 (hr2.below hlt H3.out) (hon.then (Nat.le_refl _) H3.out)
          simpa using this
        · have hn46 : ((nx s q : Int) == 46) = false := beq_eq_false_iff_ne.2 (by omega)
          clear h46 hq46
          go_wp2_with fail
          refine hS.mono ?_
          rintro e w3 ⟨rfl, hF3, b3⟩
          have hL := Tryz.Builder_Len_f w.heap.size w.heap.size _ w3 hF3
          have H3 := Lib.hid b3
          clear hS hF3 b3
          go_wp2_with fail
          refine hL.mono ?_
          rintro e w4 ⟨rfl, hw⟩
          subst hw
          rw [hl]
          clear hL hl
          go_wp2
          go_ret3
          obtain ⟨d2, hr2⟩ := H2.out
          have hon := ((HH.out.trans (Only.drew H1.out)).trans (Only.drew d2))
          have := HF.out w4 (hr2.below hlt H3.out) (hon.then (Nat.le_refl _) H3.out)
          simpa using this
end Go.Proofs.YtkfpjhjmedodlaaGreatDoor

/- parse.reader: exponent. -/
set_option maxRecDepth 100000
namespace Go.Proofs.YtkfpjhjmedodlaaGreatDoor
open Go.RowKit Wd
namespace Wd
/-- The greatest exponent that is kept. -/
def ecap : Nat := 1099511627776
/-- The number that a row of digits names, held down to ecap; the place behind. -/
def escan (s : ByteArray) : Nat → Nat → Nat → Nat × Nat
  | 0, p, a => (a, p)
  | n + 1, p, a => if isdig (nx s p) false = true then escan s n (p + 1) (min ecap (10 * a + (nx s p - 48))) else (a, p)
theorem escan_dig {s : ByteArray} {p : Nat} (hp : p < s.size) {a : Nat} (h : isdig (nx s p) false = true) :
    escan s (s.size - p) p a = escan s (s.size - (p + 1)) (p + 1) (min ecap (10 * a + (nx s p - 48))) := by
  rw [show s.size - p = s.size - (p + 1) + 1 by omega, escan, if_pos h]
theorem escan_end {s : ByteArray} {p : Nat} {a : Nat} (h : ¬ isdig (nx s p) false = true) : escan s (s.size - p) p a = (a, p) := by
  cases hn : s.size - p with
  | zero => rfl
  | succ n => rw [escan, if_neg h]
/-- An exponent behind the letter c: its number; is there one?; the place behind. -/
def expo (s : ByteArray) (p c : Nat) : Int × Bool × Nat :=
  if nx s p = c ∧ c ≠ 0 then
    (if isdig (nx s (afterSign s (p + 1))) false = true then
      let r := escan s (s.size - afterSign s (p + 1)) (afterSign s (p + 1)) 0
      (if nx s (p + 1) = 45 then -(r.1 : Int) else (r.1 : Int), true, r.2)
    else (0, false, afterSign s (p + 1)))
  else (0, false, p)
end Wd
/-- exponent's results. -/
def ExpPost (b : Nat) (s : ByteArray) (p c : Nat) (w : World) (e : Ending) (w' : World) : Prop :=
  e = .returned (.tuple #[.int .i64 (expo s p c).1, .bool (expo s p c).2.1]) ∧ RdB b w' s (expo s p c).2.2 ∧ Only b w w'

set_option maxHeartbeats 4000000 in
theorem exponent_any {b : Nat} {w : World} {s : ByteArray} {p : Nat} (h : RdB b w s p) (c : Nat) (hc : c ≠ 0) :
    Calls Tryz.prog 141 #[.pointer (some ⟨b, 0, none⟩), .int .u8 c] w (ExpPost b s p c w) := by
  have hm := may_any h c hc
  clear h
  go_enter Tryz.func141, Tryz.ntmps141
  go_wp2_with fail
  refine hm.mono ?_
  rintro e w1 ⟨rfl, hr, ho⟩
  clear hm
  by_cases hcc : nx s p = c ∧ c ≠ 0
  · rw [if_pos hcc] at hr
    rw [decide_eq_true hcc]
    have hs := sign_any hr
    have HO := Lib.hid (And.intro ho hcc)
    clear hr ho hcc
    go_wp2_with fail
    refine hs.mono ?_
    rintro e w2 ⟨rfl, hr2, ho2⟩
    have hn := next_any hr2
    obtain ⟨neg, hneg⟩ : ∃ r, decide (nx s (p + 1) = 45) = r := ⟨_, rfl⟩
    obtain ⟨hs2, hsg⟩ : ∃ r, isSign s (p + 1) = r := ⟨_, rfl⟩
    rw [hneg, hsg]
    have H2 := Lib.hid (And.intro hr2 (And.intro ho2 hneg))
    clear hs hr2 ho2 hsg hneg
    go_wp2_with fail
    refine hn.mono ?_
    rintro e w3 ⟨rfl, d3⟩
    have H3 := Lib.hid d3
    clear hn d3
    go_wp2_with fail
    refine (digit_any _ false _).mono ?_
    rintro e w4 ⟨rfl, rfl⟩
    by_cases hdg : isdig (nx s (afterSign s (p + 1))) false = true
    · rw [hdg]
      have HD := Lib.hid hdg
      clear hdg
      go_wp2
      go_loopg [8] (s.size - afterSign s (p + 1)) (fun k s8 wr => ∃ (q a : Nat), s8 = .int .i64 a ∧ RdB b wr s q ∧ Only b w wr ∧ a ≤ ecap ∧ escan s (s.size - q) q a = escan s (s.size - afterSign s (p + 1)) (afterSign s (p + 1)) 0 ∧ s.size - q ≤ k)
      case atStart =>
        exact ⟨_, 0, rfl, H2.out.1.drew H3.out, (HO.out.1.trans H2.out.2.1).trans (Only.drew H3.out), Nat.zero_le _, rfl, Nat.le_refl _⟩
      case round =>
        obtain ⟨q, a, rfl, hr, ho, ha, hes, hk⟩ := hrel
        have hn := next_any hr
        have hsz := hr.2.2
        by_cases hd : isdig (nx s q) false = true
        · have hqs : q < s.size := nx_pos (fun e => by rw [e, isdig_zero] at hd; simp at hd)
          have hst := escan_dig hqs (a := a) hd
          have h4857 : 48 ≤ nx s q ∧ nx s q ≤ 57 := by
            unfold isdig at hd
            simpa using hd
          obtain ⟨d, hdd⟩ : ∃ d, nx s q - 48 = d := ⟨_, rfl⟩
          have hw1 : IntKind.u8.wrap ((nx s q : Int) - 48) = (d : Int) := by rw [IntKind.wrap_u8]; omega
          have hd9 : d ≤ 9 := by omega
          obtain ⟨a10, ha10⟩ : ∃ a10, 10 * a = a10 := ⟨_, rfl⟩
          obtain ⟨a11, ha11⟩ : ∃ a11, a10 + d = a11 := ⟨_, rfl⟩
          have hw2 : IntKind.i64.wrap (10 * (a : Int)) = (a10 : Int) := by rw [IntKind.wrap_i64]; unfold ecap at ha; omega
          have hw3 : IntKind.i64.wrap ((a10 : Int) + (d : Int)) = (a11 : Int) := by rw [IntKind.wrap_i64]; unfold ecap at ha; omega
          have hwq : IntKind.i64.wrap ((q : Int) + 1) = ((q + 1 : Nat) : Int) := by rw [IntKind.wrap_i64]; omega
          have HH := Lib.hid (And.intro ho (And.intro ha (And.intro hes (And.intro hk (And.intro hst (And.intro hdd (And.intro ha10 ha11)))))))
          clear ho ha hes hk hst hdd ha10 ha11 h4857
          go_wp2_with fail
          refine hn.mono ?_
          rintro e w5 ⟨rfl, d5⟩
          have hr5 := hr.drew d5
          have hn5 := next_any hr5
          have H5 := Lib.hid d5
          clear hn hr d5
          go_wp2_with fail
          refine (digit_any _ false _).mono ?_
          rintro e w6 ⟨rfl, rfl⟩
          rw [hd]
          clear hd
          go_wp2_with fail
          refine hn5.mono ?_
          rintro e w6 ⟨rfl, d6⟩
          have hr6 := hr5.drew d6
          have c1 := hr6.c1
          have f1 := hr6.f1
          have H6 := Lib.hid (And.intro d6 hr6)
          clear hn5 hr5 d6 hr6
          go_wp2
          go_roundg (s.size - (q + 1))
          case measure => have := HH.out; omega
          case rel =>
            obtain ⟨ho, ha, hes, hk, hst, hdd, ha10, ha11⟩ := HH.out
            obtain ⟨d6, hr6⟩ := H6.out
            refine ⟨q + 1, min ecap a11, ?_, hr6.set (q + 1) hqs, ((ho.trans (Only.drew H5.out)).trans (Only.drew d6)).trans (Only.set b _ 1 _), Nat.min_le_left _ _, ?_, Nat.le_refl _⟩
            · unfold ecap
              congr 1
              omega
            · rw [← hes, hst, hdd, ha10, ha11]
        · have hst := escan_end (a := a) hd
          have hdf : isdig (nx s q) false = false := by simpa using hd
          have HF : Hid (∀ w', RdB b w' s q → Only b w w' → ExpPost b s p c w (.returned (.tuple #[.int .i64 (if neg = true then -(a : Int) else (a : Int)), .bool true])) w') := fun w' h1 h2 => by
            have hcc := HO.out.2
            have hneg := H2.out.2.2
            have hdg := HD.out
            have e : expo s p c = (if neg = true then -(a : Int) else (a : Int), true, q) := by
              unfold expo
              rw [if_pos hcc, if_pos hdg, ← hes, hst, ← hneg]
              simp
            unfold ExpPost
            rw [e]
            exact ⟨rfl, h1, h2⟩
          have hwn : IntKind.i64.wrap (-(a : Int)) = -(a : Int) := by rw [IntKind.wrap_i64]; unfold ecap at ha; omega
          have HH := Lib.hid ho
          clear ho ha hes hk hst hd
          go_wp2_with fail
          refine hn.mono ?_
          rintro e w5 ⟨rfl, d5⟩
          have HP := Lib.hid (And.intro (hr.drew d5) (HH.out.trans (Only.drew d5)))
          clear hn hr d5
          go_wp2_with fail
          refine (digit_any _ false _).mono ?_
          rintro e w6 ⟨rfl, rfl⟩
          rw [hdf]
          clear hdf
          cases neg
          all_goals
            go_wp2
            go_ret2
            exact HF.out _ HP.out.1 HP.out.2
    · have hdf : isdig (nx s (afterSign s (p + 1))) false = false := by simpa using hdg
      rw [hdf]
      have HF : Hid (ExpPost b s p c w (.returned (.tuple #[.int .i64 0, .bool false])) w3) := by
        have := HO.out.2
        refine ⟨?_, ?_, (HO.out.1.trans H2.out.2.1).trans (Only.drew H3.out)⟩ <;> unfold expo <;> rw [if_pos this, if_neg hdg]
        exact H2.out.1.drew H3.out
      clear hdg hdf
      go_wp2
      go_ret2
      exact HF.out
  · rw [if_neg hcc] at hr
    rw [decide_eq_false hcc]
    have HF : Hid (ExpPost b s p c w (.returned (.tuple #[.int .i64 0, .bool false])) w1) := by
      refine ⟨?_, ?_, ho⟩ <;> unfold expo <;> rw [if_neg hcc]
      exact hr
    clear hr ho hcc
    go_wp2
    go_ret2
    exact HF.out
end Go.Proofs.YtkfpjhjmedodlaaGreatDoor

/- parse.reader: word, at a text of ASCII bytes. -/
set_option maxRecDepth 100000
namespace Go.Proofs.YtkfpjhjmedodlaaGreatDoor
open Go.RowKit Wd
namespace Wd
/-- Every byte is an ASCII byte. -/
def Asc (s : ByteArray) : Prop := ∀ (j : Nat) (b : UInt8), s.data.toList[j]? = some b → b.toNat < 128
theorem Asc.at {s : ByteArray} (h : Asc s) {j : Nat} (hj : j < s.size) : s[j].toNat < 128 := by
  have h1 : j < s.data.toList.length := by simpa using hj
  have h2 := h j s.data.toList[j] (List.getElem?_eq_getElem h1)
  have hget : s.data.toList[j] = s[j] := by rw [Array.getElem_toList]; rfl
  rwa [hget] at h2
theorem Asc.extract {s : ByteArray} (h : Asc s) (i j : Nat) : Asc (s.extract i j) := fun k b hk => by
  have e : (s.extract i j).data.toList = (s.data.toList.take j).drop i := by simp [ByteArray.data_extract, Array.toList_extract, List.drop_take]
  rw [e] at hk
  have hm : b ∈ s.data.toList := List.mem_of_mem_take (List.mem_of_mem_drop (List.mem_of_getElem? hk))
  obtain ⟨n, hn⟩ := List.getElem?_of_mem hm
  exact h n b hn
/-- Does the word t stand next, in whatever letters? -/
def wordAt (s : ByteArray) (p : Nat) (t : ByteArray) : Bool := decide (p + t.size ≤ s.size) && Lib.equalFold (s.extract p (p + t.size)).data.toList t.data.toList
end Wd
set_option maxHeartbeats 2000000 in
theorem ascii_any (s : ByteArray) (hs : s.size ≤ 1000000000) (hA : Asc s) (w : World) : Calls Tryz.prog 190 #[.string s] w (PureP (.bool true) w) := by
  have HA := Lib.hid hA
  clear hA
  go_enter Tryz.func190, Tryz.ntmps190
  go_wp2
  go_loopw [6] (fun i wr => ∃ k : Nat, k ≤ s.size ∧ i = .int .i64 k ∧ wr = w) (fun i _ => s.size - (intOf i).toNat)
  case atStart => exact ⟨0, Nat.zero_le _, rfl, rfl⟩
  case round =>
    obtain ⟨k, hk, rfl, rfl⟩ := hrel
    by_cases hkl : k < s.size
    · have h128 := HA.out.at hkl
      have hwk : IntKind.i64.wrap ((k : Int) + 1) = ((k + 1 : Nat) : Int) := by rw [IntKind.wrap_i64]; omega
      go_wp2
      go_roundw
      case rel => exact ⟨k + 1, by omega, rfl, by trivial⟩
      case measure => simp [intOf]; omega
    · go_wp2
      go_ret
      exact ⟨rfl, rfl⟩
/-- word's result; the reader behind it. -/
def WordPost (b : Nat) (s : ByteArray) (p : Nat) (t : ByteArray) (w : World) (e : Ending) (w' : World) : Prop :=
  e = .returned (.bool (wordAt s p t)) ∧ RdB b w' s (if wordAt s p t = true then p + t.size else p) ∧ Only b w w'

set_option maxHeartbeats 4000000 in
theorem word_rd {b : Nat} {w : World} {s : ByteArray} {p : Nat} (h : RdB b w s p) (hA : Asc s) (t : ByteArray) (ht : Asc t) (hts : t.size ≤ 1000) :
    Calls Tryz.prog 139 #[.pointer (some ⟨b, 0, none⟩), .string t] w (WordPost b s p t w) := by
  have c0 := h.c0
  have c1 := h.c1
  have f1 := h.f1
  have hp := h.2.1
  have hs := h.2.2
  have HI := Lib.hid h
  clear h
  obtain ⟨r, hr⟩ : ∃ r, s.size - p = r := ⟨_, rfl⟩
  have hw1 : IntKind.i64.wrap ((s.size : Int) - (p : Int)) = (r : Int) := by rw [IntKind.wrap_i64]; omega
  by_cases hlt : r < t.size
  · have HF : Hid (∀ w', Drew w w' → WordPost b s p t w (.returned (.bool false)) w') := fun w' hd => by
      have e : wordAt s p t = false := by unfold wordAt; rw [decide_eq_false (by omega), Bool.false_and]
      unfold WordPost
      rw [e]
      exact ⟨rfl, HI.out.drew hd, Only.drew hd⟩
    clear hr hA ht
    go_enter Tryz.func139, Tryz.ntmps139
    go_wp2
    go_quiet (fail)
    go_wp2
    go_ret
    exact HF.out _ ⟨_, rfl⟩
  · obtain ⟨m, hm⟩ : ∃ m, p + t.size = m := ⟨_, rfl⟩
    have hms : m ≤ s.size := by omega
    have hpm : p ≤ m := by omega
    have hw2 : IntKind.i64.wrap ((p : Int) + (t.size : Int)) = (m : Int) := by rw [IntKind.wrap_i64]; omega
    obtain ⟨u, hu⟩ : ∃ u, s.extract p m = u := ⟨_, rfl⟩
    have hus : u.size ≤ 1000 := by rw [← hu, ByteArray.size_extract]; omega
    have hua : Asc u := by rw [← hu]; exact hA.extract _ _
    have hE := fun w => Tryz.strings_EqualFold u t w (by omega) hua ht
    have hC := fun w => ascii_any u (by omega) hua w
    have i1 : (0 : Int) ≤ (p : Int) := by omega
    have i2 : (p : Int) ≤ (m : Int) := by omega
    have i3 : (m : Int) ≤ (s.size : Int) := by omega
    have hwa : wordAt s p t = Lib.equalFold u.data.toList t.data.toList := by
      unfold wordAt
      rw [decide_eq_true (by omega), Bool.true_and, hm, hu]
    obtain ⟨g, hg⟩ : ∃ g, Lib.equalFold u.data.toList t.data.toList = g := ⟨_, rfl⟩
    rw [hg] at hwa
    have HF : Hid (∀ w', RdB b w' s (if g = true then m else p) → Only b w w' → WordPost b s p t w (.returned (.bool g)) w') := fun w' h1 h2 => by
      unfold WordPost
      rw [hwa, hm]
      exact ⟨rfl, h1, h2⟩
    rw [hg] at hE
    clear hr hA ht hm hwa hg hus hua
    go_enter Tryz.func139, Tryz.ntmps139
    cases g
    · go_wp2
      go_quiet (first | (go_at_call 189; exact Calls.quiet_of_same (hE _)) | (go_at_call 190; exact Calls.quiet_of_same ((hC _).mono fun _ _ h => ⟨h.1, h.2.symm⟩)))
      go_wp2
      go_ret
      exact HF.out _ (by simpa using HI.out.drew ⟨_, rfl⟩) (Only.drew ⟨_, rfl⟩)
    · go_wp2
      go_quiet (first | (go_at_call 189; exact Calls.quiet_of_same (hE _)) | (go_at_call 190; exact Calls.quiet_of_same ((hC _).mono fun _ _ h => ⟨h.1, h.2.symm⟩)))
      go_wp2
      go_ret
      refine HF.out _ ?_ ((Only.drew (w' := w.drewN _) ⟨_, rfl⟩).trans (Only.set b _ 1 _))
      simpa using (HI.out.drew (w' := w.drewN _) ⟨_, rfl⟩).set m hms
end Go.Proofs.YtkfpjhjmedodlaaGreatDoor

/- parse.longest at a text that is no word and no hexadecimal number. -/
set_option maxRecDepth 100000
namespace Go.Proofs.YtkfpjhjmedodlaaGreatDoor
open Go.RowKit Wd
namespace Wd
def wInfinity : ByteArray := ⟨#[105, 110, 102, 105, 110, 105, 116, 121]⟩
def wInf : ByteArray := ⟨#[105, 110, 102]⟩
def wNan : ByteArray := ⟨#[110, 97, 110]⟩
def w0x : ByteArray := ⟨#[48, 120]⟩
/-- Behind the sign stands no word and no hexadecimal number. -/
structure Plain (s : ByteArray) : Prop where
  asc : Asc s
  inf8 : wordAt s (afterSign s 0) wInfinity = false
  inf3 : wordAt s (afterSign s 0) wInf = false
  nan : isSign s 0 = true ∨ wordAt s (afterSign s 0) wNan = false
  hex : wordAt s (afterSign s 0) w0x = false
theorem asc_of {s : ByteArray} (h : ∀ b ∈ s.data.toList, b.toNat < 128) : Asc s := fun _ b hb => h b (List.mem_of_getElem? hb)
theorem asc_infinity : Asc wInfinity := asc_of (by decide)
theorem asc_inf : Asc wInf := asc_of (by decide)
theorem asc_nan : Asc wNan := asc_of (by decide)
theorem asc_0x : Asc w0x := asc_of (by decide)
/-- The number's block. -/
def NumB (k : Nat) (w : World) (kind : Int) (neg : Bool) (ds : ByteArray) (fr ex len : Int) (ns : Bool) : Prop :=
  w.heap[k]? = some (.cells #[.int .i64 kind, .bool neg, .string ds, .int .i64 fr, .int .i64 ex, .int .i64 len, .bool ns] 92 (0, 0))
theorem NumB.cells {k : Nat} {w : World} {kind : Int} {neg : Bool} {ds : ByteArray} {fr ex len : Int} {ns : Bool} (h : NumB k w kind neg ds fr ex len ns) :
    w.cell? ⟨k, 0, none⟩ = some (.int .i64 kind) ∧ w.cell? ⟨k, 1, none⟩ = some (.bool neg) ∧ w.cell? ⟨k, 2, none⟩ = some (.string ds) ∧ w.cell? ⟨k, 3, none⟩ = some (.int .i64 fr) ∧
    w.cell? ⟨k, 4, none⟩ = some (.int .i64 ex) ∧ w.cell? ⟨k, 5, none⟩ = some (.int .i64 len) ∧ w.cell? ⟨k, 6, none⟩ = some (.bool ns) := by
  unfold NumB at h
  simp [World.cell?, h]
theorem NumB.free {k : Nat} {w : World} {kind : Int} {neg : Bool} {ds : ByteArray} {fr ex len : Int} {ns : Bool} (h : NumB k w kind neg ds fr ex len ns) (j : Nat) : w.frozen? ⟨k, j, none⟩ = false := by
  unfold NumB at h
  simp [World.frozen?, h]
theorem NumB.only {k b : Nat} {w w' : World} {kind : Int} {neg : Bool} {ds : ByteArray} {fr ex len : Int} {ns : Bool} (h : NumB k w kind neg ds fr ex len ns) (ho : Only b w w') (hk : k ≠ b) : NumB k w' kind neg ds fr ex len ns :=
  (ho.block k (lt_of_block h) hk).trans h
theorem cells_set {w : World} {k : Nat} {cs : Array Value} {T : TypeId} {fr : Nat × Nat} (h : w.heap[k]? = some (.cells cs T fr)) (j : Nat) (v : Value) :
    (w.setCell ⟨k, j, none⟩ v).heap[k]? = some (.cells (cs.setIfInBounds j v) T fr) := by
  simp [World.setCell, Array.getElem?_modify, h]
theorem NumB.set0 {k : Nat} {w : World} {kind : Int} {neg : Bool} {ds : ByteArray} {fr ex len : Int} {ns : Bool} (h : NumB k w kind neg ds fr ex len ns) (u : Int) : NumB k (w.setCell ⟨k, 0, none⟩ (.int .i64 u)) u neg ds fr ex len ns := cells_set h 0 _
theorem NumB.set1 {k : Nat} {w : World} {kind : Int} {neg : Bool} {ds : ByteArray} {fr ex len : Int} {ns : Bool} (h : NumB k w kind neg ds fr ex len ns) (u : Bool) : NumB k (w.setCell ⟨k, 1, none⟩ (.bool u)) kind u ds fr ex len ns := cells_set h 1 _
theorem NumB.set2 {k : Nat} {w : World} {kind : Int} {neg : Bool} {ds : ByteArray} {fr ex len : Int} {ns : Bool} (h : NumB k w kind neg ds fr ex len ns) (u : ByteArray) : NumB k (w.setCell ⟨k, 2, none⟩ (.string u)) kind neg u fr ex len ns := cells_set h 2 _
theorem NumB.set3 {k : Nat} {w : World} {kind : Int} {neg : Bool} {ds : ByteArray} {fr ex len : Int} {ns : Bool} (h : NumB k w kind neg ds fr ex len ns) (u : Int) : NumB k (w.setCell ⟨k, 3, none⟩ (.int .i64 u)) kind neg ds u ex len ns := cells_set h 3 _
theorem NumB.set4 {k : Nat} {w : World} {kind : Int} {neg : Bool} {ds : ByteArray} {fr ex len : Int} {ns : Bool} (h : NumB k w kind neg ds fr ex len ns) (u : Int) : NumB k (w.setCell ⟨k, 4, none⟩ (.int .i64 u)) kind neg ds fr u len ns := cells_set h 4 _
theorem NumB.set5 {k : Nat} {w : World} {kind : Int} {neg : Bool} {ds : ByteArray} {fr ex len : Int} {ns : Bool} (h : NumB k w kind neg ds fr ex len ns) (u : Int) : NumB k (w.setCell ⟨k, 5, none⟩ (.int .i64 u)) kind neg ds fr ex u ns := cells_set h 5 _
theorem NumB.set6 {k : Nat} {w : World} {kind : Int} {neg : Bool} {ds : ByteArray} {fr ex len : Int} {ns : Bool} (h : NumB k w kind neg ds fr ex len ns) (u : Bool) : NumB k (w.setCell ⟨k, 6, none⟩ (.bool u)) kind neg ds fr ex len u := cells_set h 6 _
theorem NumB.other {k b : Nat} {w : World} {kind : Int} {neg : Bool} {ds : ByteArray} {fr ex len : Int} {ns : Bool} (h : NumB k w kind neg ds fr ex len ns) (hk : k ≠ b) (o : Nat) (v : Value) : NumB k (w.setCell ⟨b, o, none⟩ v) kind neg ds fr ex len ns := h.only (Only.set b w o v) hk
theorem RdB.other {k b : Nat} {w : World} {s : ByteArray} {p : Nat} (h : RdB k w s p) (hk : k ≠ b) (o : Nat) (v : Value) : RdB k (w.setCell ⟨b, o, none⟩ v) s p := ⟨(Below.heap_setCell _ _ _ _ hk).trans h.1, h.2⟩
/-- A number as a value. -/
def numV (kind : Int) (neg : Bool) (ds : ByteArray) (fr ex len : Int) (ns : Bool) : Value := .agg #[.int .i64 kind, .bool neg, .string ds, .int .i64 fr, .int .i64 ex, .int .i64 len, .bool ns]
theorem NumB.sets {k : Nat} {w : World} {kind : Int} {neg : Bool} {ds : ByteArray} {fr ex len : Int} {ns : Bool} (h : NumB k w kind neg ds fr ex len ns) (kind' : Int) (neg' : Bool) (ds' : ByteArray) (fr' ex' len' : Int) (ns' : Bool) :
    NumB k (((((((w.setCell ⟨k, 0, none⟩ (.int .i64 kind')).setCell ⟨k, 1, none⟩ (.bool neg')).setCell ⟨k, 2, none⟩ (.string ds')).setCell ⟨k, 3, none⟩ (.int .i64 fr')).setCell ⟨k, 4, none⟩ (.int .i64 ex')).setCell ⟨k, 5, none⟩ (.int .i64 len')).setCell ⟨k, 6, none⟩ (.bool ns')) kind' neg' ds' fr' ex' len' ns' :=
  ((((((h.set0 kind').set1 neg').set2 ds').set3 fr').set4 ex').set5 len').set6 ns'
theorem below_sets {B k : Nat} {a w : World} (h : Below B a w) (hk : B ≤ k) (v0 v1 v2 v3 v4 v5 v6 : Value) :
    Below B a (((((((w.setCell ⟨k, 0, none⟩ v0).setCell ⟨k, 1, none⟩ v1).setCell ⟨k, 2, none⟩ v2).setCell ⟨k, 3, none⟩ v3).setCell ⟨k, 4, none⟩ v4).setCell ⟨k, 5, none⟩ v5).setCell ⟨k, 6, none⟩ v6) :=
  ((((((h.setCell (p := ⟨k, 0, none⟩) hk v0).setCell (p := ⟨k, 1, none⟩) hk v1).setCell (p := ⟨k, 2, none⟩) hk v2).setCell (p := ⟨k, 3, none⟩) hk v3).setCell (p := ⟨k, 4, none⟩) hk v4).setCell (p := ⟨k, 5, none⟩) hk v5).setCell (p := ⟨k, 6, none⟩) hk v6
/-- What longest reads at a plain text. -/
def lgD (s : ByteArray) : List UInt8 × Nat × Nat := digs s false (afterSign s 0)
def lgX (s : ByteArray) : Int × Bool × Nat := expo s (lgD s).2.2 101
def lgLen (s : ByteArray) : Nat := if (lgX s).2.1 = true then (lgX s).2.2 else (lgD s).2.2
def lgV (s : ByteArray) : Value := if 0 < (lgD s).1.length then numV 0 (decide (nx s 0 = 45)) ⟨(lgD s).1.toArray⟩ (lgD s).2.1 (lgX s).1 (lgLen s) (!(isSign s 0)) else numV 0 false ⟨#[]⟩ 0 0 0 false
/-- The three blocks of longest. -/
structure LgB (w : World) (W : World) (s : ByteArray) (p : Nat) (neg : Bool) (ds : ByteArray) (fr ex len : Int) (ns : Bool) : Prop where
  r : RdB (w.heap.size + 1) W s p
  n : NumB (w.heap.size + 1 + 1) W 0 neg ds fr ex len ns
  o : NumB w.heap.size W 0 false ⟨#[]⟩ 0 0 0 false
  b : Below w.heap.size w W
theorem LgB.only {w W W' : World} {s : ByteArray} {p q : Nat} {neg : Bool} {ds : ByteArray} {fr ex len : Int} {ns : Bool} (h : LgB w W s p neg ds fr ex len ns) (hr : RdB (w.heap.size + 1) W' s q) (ho : Only (w.heap.size + 1) W W') : LgB w W' s q neg ds fr ex len ns :=
  ⟨hr, h.n.only ho (by omega), h.o.only ho (by omega), h.b.trans (ho.below (Nat.le_succ _) (Nat.le_of_lt h.r.lt))⟩
theorem LgB.drew {w W W' : World} {s : ByteArray} {p : Nat} {neg : Bool} {ds : ByteArray} {fr ex len : Int} {ns : Bool} (h : LgB w W s p neg ds fr ex len ns) (hd : Drew W W') : LgB w W' s p neg ds fr ex len ns := h.only (h.r.drew hd) (Only.drew hd)
theorem LgB.upd {w W W' : World} {s : ByteArray} {p : Nat} {neg neg' : Bool} {ds ds' : ByteArray} {fr ex len fr' ex' len' : Int} {ns ns' : Bool} (h : LgB w W s p neg ds fr ex len ns) (hn : NumB (w.heap.size + 1 + 1) W' 0 neg' ds' fr' ex' len' ns') (ho : Only (w.heap.size + 1 + 1) W W') : LgB w W' s p neg' ds' fr' ex' len' ns' :=
  ⟨⟨(ho.block _ h.r.lt (by omega)).trans h.r.1, h.r.2⟩, hn, h.o.only ho (by omega), h.b.trans (ho.below (Nat.le_add_right _ 2) (Nat.le_of_lt (lt_of_block h.n)))⟩
end Wd
theorem word_no {b : Nat} {w : World} {s : ByteArray} {p : Nat} (h : RdB b w s p) (hA : Asc s) (t : ByteArray) (ht : Asc t) (hts : t.size ≤ 1000) (hno : wordAt s p t = false) :
    Calls Tryz.prog 139 #[.pointer (some ⟨b, 0, none⟩), .string t] w fun e w' => e = .returned (.bool false) ∧ RdB b w' s p ∧ Only b w w' := by
  refine (word_rd h hA t ht hts).mono ?_
  rintro e w' ⟨rfl, hr, ho⟩
  rw [hno] at hr ⊢
  exact ⟨rfl, hr, ho⟩

theorem expo_no {s : ByteArray} {p c : Nat} {ex : Int} {p2 : Nat} (h : expo s p c = (ex, false, p2)) : ex = 0 := by
  unfold expo at h
  split at h
  · split at h
    · simp at h
    · simp at h; exact h.1.symm
  · simp at h; exact h.1.symm
/-- longest's results. -/
def LgPost (s : ByteArray) (w : World) (e : Ending) (w' : World) : Prop :=
  e = .returned (.tuple #[lgV s, .bool (decide (0 < (lgD s).1.length))]) ∧ Below w.heap.size w w'

set_option maxHeartbeats 8000000 in
theorem longest_any (s : ByteArray) (hP : Plain s) (hs : s.size ≤ 1000000) (w : World) :
    Calls Tryz.prog 79 #[.string s, .bool true] w (LgPost s w) := by
  have HP := Lib.hid hP
  clear hP
  go_enter Tryz.func79, Tryz.ntmps79
  go_wp2_with fail
  generalize hW : World.alloc _ _ = W
  have hr : RdB (w.heap.size + 1) W s 0 := by
    refine ⟨?_, Nat.zero_le _, by omega⟩
    rw [← hW]
    show (((w.heap.push _).push _).push _)[w.heap.size + 1]? = _
    rw [Array.getElem?_push, if_neg (by simp), Array.getElem?_push, if_pos (by simp)]
    rfl
  have hn : NumB (w.heap.size + 1 + 1) W 0 false ⟨#[]⟩ 0 0 0 false := by
    rw [← hW]
    show (((w.heap.push _).push _).push _)[w.heap.size + 2]? = _
    rw [Array.getElem?_push, if_pos (by simp)]
  have h0 : NumB w.heap.size W 0 false ⟨#[]⟩ 0 0 0 false := by
    rw [← hW]
    show (((w.heap.push _).push _).push _)[w.heap.size]? = _
    simp [Array.getElem?_push]
    try omega
  have hb : Below w.heap.size w W := by
    rw [← hW]
    exact (((Below.refl _ w).alloc (Nat.le_refl _) _).alloc (by simp) _).alloc (by simp; omega) _
  clear hW
  have L : LgB w W s 0 false ⟨#[]⟩ 0 0 0 false := ⟨hr, hn, h0, hb⟩
  have hsg := sign_any hr
  clear hr hn h0 hb
  have HL := Lib.hid L
  clear L
  refine hsg.mono ?_
  rintro e w1 ⟨rfl, hr1, ho1⟩
  clear hsg
  have L1 := HL.out.only hr1 ho1
  clear HL hr1 ho1
  obtain ⟨neg, hneg⟩ : ∃ r, decide (nx s 0 = 45) = r := ⟨_, rfl⟩
  obtain ⟨sg, hsg⟩ : ∃ r, isSign s 0 = r := ⟨_, rfl⟩
  rw [hneg, hsg]
  have HS := Lib.hid (And.intro hneg hsg)
  clear hneg hsg
  have f1 := L1.n.free 1
  have f6 := L1.n.free 6
  obtain ⟨-, c1, -, -, -, -, c6⟩ := L1.n.cells
  have L2 := L1.upd ((L1.n.set1 neg).set6 (!sg)) ((Only.set _ _ _ _).trans (Only.set _ _ _ _))
  have hw1 := word_no L2.r HP.out.asc wInfinity asc_infinity (by decide) HP.out.inf8
  have HL2 := Lib.hid L2
  clear L1 L2
  go_wp2_with fail
  refine hw1.mono ?_
  rintro e w2 ⟨rfl, hr2, ho2⟩
  have L2 := HL2.out.only hr2 ho2
  clear hw1 hr2 ho2 HL2 f1 f6 c1 c6
  have hw1 := word_no L2.r HP.out.asc wInf asc_inf (by decide) HP.out.inf3
  have HL2 := Lib.hid L2
  clear L2
  go_wp2_with fail
  refine hw1.mono ?_
  rintro e w3 ⟨rfl, hr2, ho2⟩
  have L3 := HL2.out.only hr2 ho2
  obtain ⟨-, -, -, -, -, -, c6⟩ := L3.n.cells
  have c1 := L3.r.c1
  clear hw1 hr2 ho2 HL2
  have hx : ∀ w4, LgB w w4 s (afterSign s 0) neg ⟨#[]⟩ 0 0 0 (!sg) → Calls Tryz.prog 139 #[.pointer (some ⟨w.heap.size + 1, 0, none⟩), .string w0x] w4 fun e w' => e = .returned (.bool false) ∧ RdB (w.heap.size + 1) w' s (afterSign s 0) ∧ Only (w.heap.size + 1) w4 w' := fun w4 h => word_no h.r HP.out.asc w0x asc_0x (by decide) HP.out.hex
  cases sg
  case' false =>
    have hnn : wordAt s (afterSign s 0) wNan = false := by
      rcases HP.out.nan with h | h
      · rw [HS.out.2] at h
        simp at h
      · exact h
    have hw1 := word_no L3.r HP.out.asc wNan asc_nan (by decide) hnn
    have HL3 := Lib.hid L3
    have HX := Lib.hid hx
    clear L3 hnn hx
    go_wp2_with fail
    refine hw1.mono ?_
    rintro e w4 ⟨rfl, hr2, ho2⟩
    have L4 := HL3.out.only hr2 ho2
    have hx := HX.out w4 L4
    have c1 := L4.r.c1
    have HL4 := Lib.hid L4
    clear hw1 hr2 ho2 HL3 L4 HX c6
    go_wp2_with fail
  case' true =>
    have hx := hx w3 L3
    have HL4 := Lib.hid L3
    clear L3
    go_wp2_with fail
    clear c6
  all_goals
    refine hx.mono ?_
    rintro e w5 ⟨rfl, hr5, ho5⟩
    have L5 := HL4.out.only hr5 ho5
    clear c1
    have c1 := L5.r.c1
    have f1 := L5.r.f1
    have L6 := L5.only (L5.r.set (afterSign s 0) L5.r.2.1) (Only.set _ w5 1 _)
    have hd := digits_rd L6.r false
    have HL6 := Lib.hid L6
    clear hx hr5 ho5 L5 L6 HL4
    go_wp2_with fail
    refine hd.mono ?_
    rintro e w6 ⟨rfl, hr6, ho6⟩
    have L7 := HL6.out.only hr6 ho6
    obtain ⟨ns, hns⟩ : ∃ ns, (!isSign s 0) = ns := ⟨_, rfl⟩
    have hns2 := hns
    rw [HS.out.2] at hns2
    rw [hns2] at L7
    have HN := Lib.hid hns
    clear hd hr6 ho6 HL6 c1 f1 hns hns2
    obtain ⟨⟨ds, fr, p1⟩, hD⟩ : ∃ D, digs s false (afterSign s 0) = D := ⟨_, rfl⟩
    rw [hD] at L7 ⊢
    dsimp only at L7 ⊢
    have HD := Lib.hid hD
    clear hD
    by_cases hz : 0 < ds.length
    · rw [decide_eq_true hz]
      have c1 := L7.r.c1
      have g2 := L7.n.free 2
      have g3 := L7.n.free 3
      have g5 := L7.n.free 5
      obtain ⟨-, -, k2, k3, -, k5, -⟩ := L7.n.cells
      have HL7 := Lib.hid L7
      clear L7
      go_wp2_with fail
      go_region
      have L8a := HL7.out.upd (((HL7.out.n.set2 ⟨ds.toArray⟩).set3 (fr : Int)).set5 (p1 : Int)) (((Only.set _ _ _ _).trans (Only.set _ _ _ _)).trans (Only.set _ _ _ _))
      have L8 := L8a.drew ⟨1, rfl⟩
      clear L8a
      have hL8 : ∃ w7, ((((w6.setCell ⟨w.heap.size + 1 + 1, 2, none⟩ (.string ⟨ds.toArray⟩)).setCell ⟨w.heap.size + 1 + 1, 3, none⟩ (.int .i64 fr)).setCell ⟨w.heap.size + 1 + 1, 5, none⟩ (.int .i64 p1)).drewN 1) = w7 := ⟨_, rfl⟩
      obtain ⟨w7, hw7⟩ := hL8
      have hw7' : ((((w6.setCell ⟨w.heap.size + 1 + 1, 2, none⟩ (.string ⟨ds.toArray⟩)).setCell ⟨w.heap.size + 1 + 1, 3, none⟩ (.int .i64 fr)).setCell ⟨w.heap.size + 1 + 1, 5, none⟩ (.int .i64 p1)).drew) = w7 := hw7
      rw [hw7] at L8
      rw [hw7']
      clear hw7 hw7' c1 g2 g3 g5 k2 k3 k5 HL7
      have hx := exponent_any L8.r 101 (by decide)
      have HL8 := Lib.hid L8
      clear L8
      go_wp2_with fail
      refine hx.mono ?_
      rintro e w8 ⟨rfl, hr8, ho8⟩
      have L9 := HL8.out.only hr8 ho8
      clear hx hr8 ho8 HL8
      obtain ⟨⟨ex, xo, p2⟩, hX⟩ : ∃ X, expo s p1 101 = X := ⟨_, rfl⟩
      rw [hX] at L9 ⊢
      dsimp only at L9 ⊢
      have HX := Lib.hid hX
      clear hX
      cases xo
      case' false =>
        have hex0 : ex = 0 := expo_no (HX.out)
        subst hex0
        have g0 := L9.o.free 0
        have g1 := L9.o.free 1
        have g2 := L9.o.free 2
        have g3 := L9.o.free 3
        have g4 := L9.o.free 4
        have g5 := L9.o.free 5
        have g6 := L9.o.free 6
        obtain ⟨k0, k1, k2, k3, k4, k5, k6⟩ := L9.o.cells
        obtain ⟨n0, n1, n2, n3, n4, n5, n6⟩ := L9.n.cells
        have L20 := L9.o.sets 0 neg ⟨ds.toArray⟩ (fr : Int) 0 (p1 : Int) ns
        have b20 := below_sets (k := w.heap.size) L9.b (Nat.le_refl _) (.int .i64 0) (.bool neg) (.string ⟨ds.toArray⟩) (.int .i64 (fr : Int)) (.int .i64 0) (.int .i64 (p1 : Int)) (.bool ns)
        have H20 := Lib.hid (And.intro L20 b20)
        clear L9 L20 b20
        go_wp2
        generalize (((((((w8.setCell ⟨w.heap.size, 0, none⟩ (.int .i64 0)).setCell ⟨w.heap.size, 1, none⟩ (.bool neg)).setCell ⟨w.heap.size, 2, none⟩ (.string ⟨ds.toArray⟩)).setCell ⟨w.heap.size, 3, none⟩ (.int .i64 (fr : Int))).setCell ⟨w.heap.size, 4, none⟩ (.int .i64 0)).setCell ⟨w.heap.size, 5, none⟩ (.int .i64 (p1 : Int))).setCell ⟨w.heap.size, 6, none⟩ (.bool ns)) = WF at H20 ⊢
        clear g0 g1 g2 g3 g4 g5 g6 k0 k1 k2 k3 k4 k5 k6 n0 n1 n2 n3 n4 n5 n6
        obtain ⟨k0, k1, k2, k3, k4, k5, k6⟩ := H20.out.1.cells
        (try simp only [Exit.inBlock, Exit.then])
        refine bodyPost_ret (v := .tuple #[numV 0 neg ⟨ds.toArray⟩ (fr : Int) 0 (p1 : Int) ns, .bool true]) ?_ rfl ?_
        · simp [results, Tryz.f79, go_sem, k0, k1, k2, k3, k4, k5, k6, numV]
        · refine ⟨?_, H20.out.2⟩
          have hD := HD.out
          have hX := HX.out
          have hS := HS.out
          have e1 : lgD s = (ds, fr, p1) := hD
          have e2 : lgX s = (0, false, p2) := by unfold lgX; rw [e1]; exact hX
          unfold lgV lgLen
          rw [e1, e2, hS.1, HN.out, if_pos hz, decide_eq_true hz]
          rfl
      case' true =>
        have c1 := L9.r.c1
        have g4 := L9.n.free 4
        have g5 := L9.n.free 5
        obtain ⟨-, -, -, -, k4, k5, -⟩ := L9.n.cells
        have HL9 := Lib.hid L9
        clear L9
        go_wp2_with fail
        go_region
        have L10a := HL9.out.upd ((HL9.out.n.set4 ex).set5 (p2 : Int)) ((Only.set _ _ _ _).trans (Only.set _ _ _ _))
        have L10 := L10a.drew ⟨1, rfl⟩
        clear L10a
        obtain ⟨w9, hw9⟩ : ∃ w9, (((w8.setCell ⟨w.heap.size + 1 + 1, 4, none⟩ (.int .i64 ex)).setCell ⟨w.heap.size + 1 + 1, 5, none⟩ (.int .i64 p2)).drewN 1) = w9 := ⟨_, rfl⟩
        have hw9' : ((w8.setCell ⟨w.heap.size + 1 + 1, 4, none⟩ (.int .i64 ex)).setCell ⟨w.heap.size + 1 + 1, 5, none⟩ (.int .i64 p2)).drew = w9 := hw9
        rw [hw9] at L10
        rw [hw9']
        clear hw9 hw9' c1 g4 g5 k4 k5 HL9
        have g0 := L10.o.free 0
        have g1 := L10.o.free 1
        have g2 := L10.o.free 2
        have g3 := L10.o.free 3
        have g4 := L10.o.free 4
        have g5 := L10.o.free 5
        have g6 := L10.o.free 6
        obtain ⟨k0, k1, k2, k3, k4, k5, k6⟩ := L10.o.cells
        obtain ⟨n0, n1, n2, n3, n4, n5, n6⟩ := L10.n.cells
        have L20 := L10.o.sets 0 neg ⟨ds.toArray⟩ (fr : Int) ex (p2 : Int) ns
        have b20 := below_sets (k := w.heap.size) L10.b (Nat.le_refl _) (.int .i64 0) (.bool neg) (.string ⟨ds.toArray⟩) (.int .i64 (fr : Int)) (.int .i64 ex) (.int .i64 (p2 : Int)) (.bool ns)
        have H20 := Lib.hid (And.intro L20 b20)
        clear L10 L20 b20
        go_wp2
        generalize (((((((w9.setCell ⟨w.heap.size, 0, none⟩ (.int .i64 0)).setCell ⟨w.heap.size, 1, none⟩ (.bool neg)).setCell ⟨w.heap.size, 2, none⟩ (.string ⟨ds.toArray⟩)).setCell ⟨w.heap.size, 3, none⟩ (.int .i64 (fr : Int))).setCell ⟨w.heap.size, 4, none⟩ (.int .i64 ex)).setCell ⟨w.heap.size, 5, none⟩ (.int .i64 (p2 : Int))).setCell ⟨w.heap.size, 6, none⟩ (.bool ns)) = WF at H20 ⊢
        clear g0 g1 g2 g3 g4 g5 g6 k0 k1 k2 k3 k4 k5 k6 n0 n1 n2 n3 n4 n5 n6
        obtain ⟨k0, k1, k2, k3, k4, k5, k6⟩ := H20.out.1.cells
        (try simp only [Exit.inBlock, Exit.then])
        refine bodyPost_ret (v := .tuple #[numV 0 neg ⟨ds.toArray⟩ (fr : Int) ex (p2 : Int) ns, .bool true]) ?_ rfl ?_
        · simp [results, Tryz.f79, go_sem, k0, k1, k2, k3, k4, k5, k6, numV]
        · refine ⟨?_, H20.out.2⟩
          have hD := HD.out
          have hX := HX.out
          have hS := HS.out
          have e1 : lgD s = (ds, fr, p1) := hD
          have e2 : lgX s = (ex, true, p2) := by unfold lgX; rw [e1]; exact hX
          unfold lgV lgLen
          rw [e1, e2, hS.1, HN.out, if_pos hz, decide_eq_true hz]
          rfl
    · rw [decide_eq_false hz]
      have g0 := L7.o.free 0
      have g1 := L7.o.free 1
      have g2 := L7.o.free 2
      have g3 := L7.o.free 3
      have g4 := L7.o.free 4
      have g5 := L7.o.free 5
      have g6 := L7.o.free 6
      obtain ⟨k0, k1, k2, k3, k4, k5, k6⟩ := L7.o.cells
      have L8 := L7.o.sets 0 false ⟨#[]⟩ 0 0 0 false
      have b8 := below_sets (k := w.heap.size) L7.b (Nat.le_refl _) (.int .i64 0) (.bool false) (.string ⟨#[]⟩) (.int .i64 0) (.int .i64 0) (.int .i64 0) (.bool false)
      have H8 := Lib.hid (And.intro L8 b8)
      clear L7 L8 b8
      go_wp2
      generalize (((((((w6.setCell ⟨w.heap.size, 0, none⟩ (.int .i64 0)).setCell ⟨w.heap.size, 1, none⟩ (.bool false)).setCell ⟨w.heap.size, 2, none⟩ (.string ⟨#[]⟩)).setCell ⟨w.heap.size, 3, none⟩ (.int .i64 0)).setCell ⟨w.heap.size, 4, none⟩ (.int .i64 0)).setCell ⟨w.heap.size, 5, none⟩ (.int .i64 0)).setCell ⟨w.heap.size, 6, none⟩ (.bool false)) = WF at H8 ⊢
      clear g0 g1 g2 g3 g4 g5 g6 k0 k1 k2 k3 k4 k5 k6
      obtain ⟨k0, k1, k2, k3, k4, k5, k6⟩ := H8.out.1.cells
      (try simp only [Exit.inBlock, Exit.then])
      refine bodyPost_ret (v := .tuple #[numV 0 false ⟨#[]⟩ 0 0 0 false, .bool false]) ?_ rfl ?_
      · simp [results, Tryz.f79, go_sem, k0, k1, k2, k3, k4, k5, k6, numV]
      · refine ⟨?_, H8.out.2⟩
        have e1 : lgD s = (ds, fr, p1) := HD.out
        unfold lgV
        rw [e1, if_neg hz, decide_eq_false hz]
end Go.Proofs.YtkfpjhjmedodlaaGreatDoor
