/- What wide.FromBase gives at digits of the base 10, and the first methods of the reader of package parse. -/
import Derived.Test.YtkfpjhjmedodlaaGreatDoorPh
import Derived.Test.YtkfpjhjmedodlaaGreatDoorPb
import Derived.OneCell
import Derived.Test.YtkfpjhjmedodlaaGreatDoorShelf
import Derived.Lib.UnsafeStr
import Derived.Laws.Externs
/- wide.FromBase: the number of a string of digits. -/
set_option maxRecDepth 100000
namespace Go.Proofs.YtkfpjhjmedodlaaGreatDoor
open Go.RowKit Wd
namespace Wd
/-- What one digit is worth. -/
def dv (c : UInt8) : Nat := if 97 ≤ c.toNat then c.toNat - 87 else if 65 ≤ c.toNat then c.toNat - 55 else c.toNat - 48
/-- The number that a row of digits names. -/
def valBase (b : Nat) (l : List UInt8) : Nat := l.foldl (fun a c => a * b + dv c) 0
/-- Every byte is a digit of the base. -/
def Digs (b : Nat) (l : List UInt8) : Prop := ∀ c ∈ l, 48 ≤ c.toNat ∧ dv c < b
theorem valBase_snoc (b : Nat) (l : List UInt8) (c : UInt8) : valBase b (l ++ [c]) = valBase b l * b + dv c := by simp [valBase]
theorem foldl_lt {b : Nat} : ∀ (l : List UInt8) (a : Nat), Digs b l → l.foldl (fun a c => a * b + dv c) a < (a + 1) * b ^ l.length
  | [], a, _ => by simp
  | c :: l, a, h => by
    have h2 := foldl_lt l (a * b + dv c) (fun x hx => h x (by simp [hx]))
    have h3 := (h c (by simp)).2
    rw [List.foldl_cons, List.length_cons, Nat.pow_succ]
    refine Nat.lt_of_lt_of_le h2 ?_
    rw [Nat.mul_comm (b ^ l.length) b, ← Nat.mul_assoc]
    refine Nat.mul_le_mul_right _ ?_
    rw [Nat.add_mul]
    omega
theorem valBase_lt {b : Nat} {l : List UInt8} (h : Digs b l) : valBase b l < b ^ l.length := by
  have := foldl_lt l 0 h
  simpa [valBase] using this
theorem Digs.take {b : Nat} {l : List UInt8} (h : Digs b l) (k : Nat) : Digs b (l.take k) := fun c hc => h c (List.mem_of_mem_take hc)
theorem wd_len_val {b : Nat} (hb : b ≤ 36) {l : List UInt8} (h : Digs b l) : (wd (valBase b l)).length ≤ l.length + 1 := by
  refine Nat.le_trans (wd_len_mono (Nat.le_of_lt (valBase_lt h))) ?_
  have := wd_len_pow (a := b) (l0 := 1) (wd_len_le (by rw [pw_one]; unfold B; omega)) l.length
  omega
theorem valBase_take {b : Nat} {l : List UInt8} {k : Nat} (h : k < l.length) : valBase b (l.take (k + 1)) = valBase b (l.take k) * b + dv l[k] := by
  rw [← List.take_append_getElem h, valBase_snoc]
end Wd
theorem FbInv.set {B0 : Nat} {w : World} {vo : Value} {N : Nat} {t s : Int} (h : FbInv B0 w vo N t s) (t2 s2 : Int) :
    FbInv B0 (((w.setCell ⟨B0 + 1, 0, none⟩ (.int .u64 t2)).setCell ⟨B0 + 1 + 1, 0, none⟩ (.int .u64 s2)).drew) vo N t2 s2 ∧
    Below B0 w (((w.setCell ⟨B0 + 1, 0, none⟩ (.int .u64 t2)).setCell ⟨B0 + 1 + 1, 0, none⟩ (.int .u64 s2)).drew) := by
  have hlt := h.lt
  have hne : ∀ k, k < B0 + 3 → vo.ownBlock ≠ some k := fun k hk e => by
    have := World.ownsRow.lt h.own k e
    omega
  refine ⟨⟨?_, ?_, ?_, ?_⟩, (((Below.refl B0 w).setCell (p := ⟨B0 + 1, 0, none⟩) (Nat.le_succ _) _).setCell (p := ⟨B0 + 1 + 1, 0, none⟩) (Nat.le_add_right _ 2) _).trans ((Drew.below ⟨1, rfl⟩).mono (by simp [World.setCell]; omega))⟩
  · show ((w.setCell ⟨B0 + 1, 0, none⟩ (.int .u64 t2)).setCell ⟨B0 + 1 + 1, 0, none⟩ (.int .u64 s2)).heap[B0]? = _
    rw [Below.heap_setCell _ _ _ _ (by simp; omega), Below.heap_setCell _ _ _ _ (by simp)]
    exact h.o
  · show ((w.setCell ⟨B0 + 1, 0, none⟩ (.int .u64 t2)).setCell ⟨B0 + 1 + 1, 0, none⟩ (.int .u64 s2)).heap[B0 + 1]? = _
    rw [Below.heap_setCell _ _ _ _ (by simp)]
    exact one_setCell h.t
  · show ((w.setCell ⟨B0 + 1, 0, none⟩ (.int .u64 t2)).setCell ⟨B0 + 1 + 1, 0, none⟩ (.int .u64 s2)).heap[B0 + 1 + 1]? = _
    refine one_setCell (v := .int .u64 s) ?_
    rw [Below.heap_setCell _ _ _ _ (by simp)]
    exact h.s
  · exact ownsRow_setCell_other (ownsRow_setCell_other h.own (hne (B0 + 1) (by omega)) _) (hne (B0 + 2) (by omega)) _

set_option maxHeartbeats 4000000 in
theorem fromBase_any (w : World) (s : ByteArray) (b : Nat) (hb : 2 ≤ b ∧ b ≤ 36) (hd : Digs b s.data.toList) (hs : s.size ≤ 1000000) :
    Calls Tryz.prog 98 #[.string s, .int .u64 b] w (Res (valBase b s.data.toList) w) := by
  have hmf : ∀ (fn : Fn) (first cap : Array Value) (w : World), (Instr.makeFunc fn first cap).run Tryz.prog w = .ok (.func fn first cap) w := fun _ _ _ _ => rfl
  go_enter Tryz.func98, Tryz.ntmps98
  go_wp2
  go_loopw [14] (fun i wr => ∃ k : Nat, k ≤ s.size ∧ i = .int .i64 k ∧ Below w.heap.size w wr ∧ ∃ vo N t sm, FbInv w.heap.size wr vo N (t : Nat) (sm : Nat) ∧ 1 ≤ t ∧ t < 72057594037927936 ∧ sm < t ∧ N * t + sm = valBase b (s.data.toList.take k))
    (fun i _ => s.size - (intOf i).toNat)
  case atStart =>
    refine ⟨0, Nat.zero_le _, rfl, ?_, .slice none 0 0, 0, 1, 0, ⟨?_, ?_, ?_, ?_⟩, by decide, by decide, by decide, by simp [valBase]⟩
    · exact (((Below.refl _ w).alloc (Nat.le_refl _) _).alloc (by simp) _).alloc (by simp; omega) _
    · show (((w.heap.push _).push _).push _)[w.heap.size]? = _
      simp [Array.getElem?_push]
      omega
    · show (((w.heap.push _).push _).push _)[w.heap.size + 1]? = _
      rw [Array.getElem?_push, if_neg (by simp), Array.getElem?_push, if_pos (by simp)]
      rfl
    · show (((w.heap.push _).push _).push _)[w.heap.size + 2]? = _
      rw [Array.getElem?_push, if_pos (by simp)]
      rfl
    · rw [wd_zero]
      exact Own.nil _ _
  case round =>
    obtain ⟨k, hk, rfl, hbl, vo, N, t, sm, hinv, ht1, ht2, hsm, hN⟩ := hrel
    have ct := cell_of_one hinv.t
    have cs : wr.cell? ⟨w.heap.size + 1 + 1, 0, none⟩ = some (.int .u64 sm) := cell_of_one hinv.s
    have co := cell_of_one hinv.o
    have ft := free_of_one hinv.t
    have fs : wr.frozen? ⟨w.heap.size + 1 + 1, 0, none⟩ = false := free_of_one hinv.s
    have gt := lt_of_cell ct
    have gs := lt_of_cell cs
    by_cases hkl : k < s.size
    · have hbs : k < s.data.toList.length := by simpa using hkl
      have hget : s.data.toList[k] = s[k] := by rw [Array.getElem_toList]; rfl
      have hstep := valBase_take (b := b) hbs
      have hdk := hd _ (List.getElem_mem hbs)
      rw [hget] at hstep hdk
      have h256 := s[k].toNat_lt
      have HH := Lib.hid (And.intro hbl (And.intro hinv (And.intro hN (And.intro hstep hd))))
      have hx : ∃ d : Nat, dv s[k] = d := ⟨_, rfl⟩
      obtain ⟨d, hdd⟩ := hx
      have htb : t * b < 18446744073709551616 := by
        have : t * b ≤ t * 36 := Nat.mul_le_mul_left t hb.2
        omega
      have hsb : sm * b + d < t * b := by
        have : (sm + 1) * b ≤ t * b := Nat.mul_le_mul_right b hsm
        rw [Nat.add_mul] at this
        omega
      obtain ⟨t2, ht⟩ : ∃ t2 : Nat, t * b = t2 := ⟨_, rfl⟩
      obtain ⟨s1, hs1⟩ : ∃ s1 : Nat, sm * b = s1 := ⟨_, rfl⟩
      obtain ⟨s2, hs2⟩ : ∃ s2 : Nat, s1 + d = s2 := ⟨_, rfl⟩
      have wt : IntKind.u64.wrap ((t : Int) * (b : Int)) = (t2 : Int) := by
        rw [← ht, Int.natCast_mul]
        exact wrap_u64 (by rw [← Int.natCast_mul]; omega) (by rw [← Int.natCast_mul]; unfold B; omega)
      have ws : IntKind.u64.wrap ((sm : Int) * (b : Int)) = (s1 : Int) := by
        rw [← hs1, Int.natCast_mul]
        exact wrap_u64 (by rw [← Int.natCast_mul]; omega) (by rw [← Int.natCast_mul]; unfold B; omega)
      have wu : IntKind.u64.wrap ((s1 : Int) + (d : Int)) = (s2 : Int) := by
        rw [← hs2, Int.natCast_add]
        exact wrap_u64 (by omega) (by unfold B; omega)
      have HE := Lib.hid (And.intro ht (And.intro hs1 (And.intro hs2 (And.intro htb hsb))))
      have ht2b : t2 < 18446744073709551616 := by omega
      clear hbl hinv hN hstep hd ht hs1 hs2 htb hsb co
      rcases (show 97 ≤ s[k].toNat ∨ (65 ≤ s[k].toNat ∧ s[k].toNat < 97) ∨ s[k].toNat < 65 from by omega) with h1 | ⟨h1, h2⟩ | h1
      · have e1 : IntKind.u64.wrap ((s[k].toNat : Int) - 87) = (d : Int) := by rw [wrap_u64 (by omega) (by unfold B; omega)]; unfold dv at hdd; rw [if_pos h1] at hdd; omega
        have HD := Lib.hid hdd
        clear hdd hdk
        go_wp2_with fail
        go_region
        have HV := Lib.hid (HH.out.2.1.set (t2 : Int) (s2 : Int))
        generalize ((wr.setCell ⟨w.heap.size + 1, 0, none⟩ (Value.int IntKind.u64 ↑t2)).setCell ⟨w.heap.size + 1 + 1, 0, none⟩ (Value.int IntKind.u64 ↑s2)).drew = W at HV ⊢
        have c1 := cell_of_one HV.out.1.t
        have HT := Lib.hid (And.intro ht2b (And.intro ht1 (And.intro ht2 (And.intro hsm hb))))
        clear ct cs ft fs gt gs wt ws wu e1
        by_cases hbig : (72057594037927936 : Int) ≤ (t2 : Int)
        all_goals have HB := Lib.hid hbig
        · have hlN : (wd N).length ≤ 10000000 := by
            have h1 : N ≤ valBase b (s.data.toList.take k) := by rw [← HH.out.2.2.1]; exact Nat.le_trans (Nat.le_mul_of_pos_right N ht1) (Nat.le_add_right _ _)
            have h2 := wd_len_val hb.2 (HH.out.2.2.2.2.take k)
            have h3 := wd_len_mono h1
            rw [List.length_take] at h2
            omega
          have hs2b : s2 < 18446744073709551616 := by have := HE.out; omega
          have hF := flush_any HV.out.1 (by unfold B; omega) (by unfold B; omega) hlN
          simp only [Int.toNat_natCast] at hF
          clear ht2b ht2 hs2b hlN
          go_wp2_with (go_at_call 155; refine hF.mono ?_; rintro e w2 ⟨rfl, ⟨v2, hv2⟩, hb2⟩)
          go_roundw
          case rel =>
            obtain ⟨hbl, hinv, hN, hstep, hd⟩ := HH.out
            obtain ⟨ht, hs1, hs2, htb, hsb⟩ := HE.out
            obtain ⟨ht2b, ht1, ht2, hsm, hb⟩ := HT.out
            have e : N * t2 + s2 = valBase b (s.data.toList.take (k + 1)) := by
              rw [hstep, HD.out, ← hN, ← ht, ← hs2, ← hs1, Nat.add_mul, Nat.mul_assoc]
              omega
            exact ⟨k + 1, by omega, rfl, (hbl.trans HV.out.2).trans hb2, v2, _, 1, 0, hv2, by decide, by decide, by decide, by omega⟩
          case measure => simp [intOf]; omega
        · clear ht2b ht2
          go_wp2
          go_roundw
          case rel =>
            obtain ⟨hbl, hinv, hN, hstep, hd⟩ := HH.out
            obtain ⟨ht, hs1, hs2, htb, hsb⟩ := HE.out
            obtain ⟨ht2b, ht1, ht2, hsm, hb⟩ := HT.out
            have hb1 : t ≤ t * b := Nat.le_mul_of_pos_right t (by omega)
            refine ⟨k + 1, by omega, rfl, hbl.trans HV.out.2, vo, N, t2, s2, HV.out.1, by omega, by omega, by omega, ?_⟩
            rw [hstep, HD.out, ← hN, ← ht, ← hs2, ← hs1, Nat.add_mul, Nat.mul_assoc]
            omega
          case measure => simp [intOf]; omega
      · have e0 : ¬ 97 ≤ s[k].toNat := by omega
        have e1 : IntKind.u64.wrap ((s[k].toNat : Int) - 55) = (d : Int) := by rw [wrap_u64 (by omega) (by unfold B; omega)]; unfold dv at hdd; rw [if_neg e0, if_pos h1] at hdd; omega
        have HD := Lib.hid hdd
        clear hdd hdk
        go_wp2_with fail
        go_region
        have HV := Lib.hid (HH.out.2.1.set (t2 : Int) (s2 : Int))
        generalize ((wr.setCell ⟨w.heap.size + 1, 0, none⟩ (Value.int IntKind.u64 ↑t2)).setCell ⟨w.heap.size + 1 + 1, 0, none⟩ (Value.int IntKind.u64 ↑s2)).drew = W at HV ⊢
        have c1 := cell_of_one HV.out.1.t
        have HT := Lib.hid (And.intro ht2b (And.intro ht1 (And.intro ht2 (And.intro hsm hb))))
        clear ct cs ft fs gt gs wt ws wu e1
        by_cases hbig : (72057594037927936 : Int) ≤ (t2 : Int)
        all_goals have HB := Lib.hid hbig
        · have hlN : (wd N).length ≤ 10000000 := by
            have h1 : N ≤ valBase b (s.data.toList.take k) := by rw [← HH.out.2.2.1]; exact Nat.le_trans (Nat.le_mul_of_pos_right N ht1) (Nat.le_add_right _ _)
            have h2 := wd_len_val hb.2 (HH.out.2.2.2.2.take k)
            have h3 := wd_len_mono h1
            rw [List.length_take] at h2
            omega
          have hs2b : s2 < 18446744073709551616 := by have := HE.out; omega
          have hF := flush_any HV.out.1 (by unfold B; omega) (by unfold B; omega) hlN
          simp only [Int.toNat_natCast] at hF
          go_wp2_with (go_at_call 155; refine hF.mono ?_; rintro e w2 ⟨rfl, ⟨v2, hv2⟩, hb2⟩)
          go_roundw
          case rel =>
            obtain ⟨hbl, hinv, hN, hstep, hd⟩ := HH.out
            obtain ⟨ht, hs1, hs2, htb, hsb⟩ := HE.out
            obtain ⟨ht2b, ht1, ht2, hsm, hb⟩ := HT.out
            have e : N * t2 + s2 = valBase b (s.data.toList.take (k + 1)) := by
              rw [hstep, HD.out, ← hN, ← ht, ← hs2, ← hs1, Nat.add_mul, Nat.mul_assoc]
              omega
            exact ⟨k + 1, by omega, rfl, (hbl.trans HV.out.2).trans hb2, v2, _, 1, 0, hv2, by decide, by decide, by decide, by omega⟩
          case measure => simp [intOf]; omega
        · clear ht2b ht2
          go_wp2
          go_roundw
          case rel =>
            obtain ⟨hbl, hinv, hN, hstep, hd⟩ := HH.out
            obtain ⟨ht, hs1, hs2, htb, hsb⟩ := HE.out
            obtain ⟨ht2b, ht1, ht2, hsm, hb⟩ := HT.out
            have hb1 : t ≤ t * b := Nat.le_mul_of_pos_right t (by omega)
            refine ⟨k + 1, by omega, rfl, hbl.trans HV.out.2, vo, N, t2, s2, HV.out.1, by omega, by omega, by omega, ?_⟩
            rw [hstep, HD.out, ← hN, ← ht, ← hs2, ← hs1, Nat.add_mul, Nat.mul_assoc]
            omega
          case measure => simp [intOf]; omega
      · have e0 : ¬ 97 ≤ s[k].toNat := by omega
        have e00 : ¬ 65 ≤ s[k].toNat := by omega
        have h48 : 48 ≤ s[k].toNat := hdk.1
        have e1 : IntKind.u64.wrap ((s[k].toNat : Int) - 48) = (d : Int) := by rw [wrap_u64 (by omega) (by unfold B; omega)]; unfold dv at hdd; rw [if_neg e0, if_neg e00] at hdd; omega
        have HD := Lib.hid hdd
        clear hdd hdk
        go_wp2_with fail
        go_region
        have HV := Lib.hid (HH.out.2.1.set (t2 : Int) (s2 : Int))
        generalize ((wr.setCell ⟨w.heap.size + 1, 0, none⟩ (Value.int IntKind.u64 ↑t2)).setCell ⟨w.heap.size + 1 + 1, 0, none⟩ (Value.int IntKind.u64 ↑s2)).drew = W at HV ⊢
        have c1 := cell_of_one HV.out.1.t
        have HT := Lib.hid (And.intro ht2b (And.intro ht1 (And.intro ht2 (And.intro hsm hb))))
        clear ct cs ft fs gt gs wt ws wu e1
        by_cases hbig : (72057594037927936 : Int) ≤ (t2 : Int)
        all_goals have HB := Lib.hid hbig
        · have hlN : (wd N).length ≤ 10000000 := by
            have h1 : N ≤ valBase b (s.data.toList.take k) := by rw [← HH.out.2.2.1]; exact Nat.le_trans (Nat.le_mul_of_pos_right N ht1) (Nat.le_add_right _ _)
            have h2 := wd_len_val hb.2 (HH.out.2.2.2.2.take k)
            have h3 := wd_len_mono h1
            rw [List.length_take] at h2
            omega
          have hs2b : s2 < 18446744073709551616 := by have := HE.out; omega
          have hF := flush_any HV.out.1 (by unfold B; omega) (by unfold B; omega) hlN
          simp only [Int.toNat_natCast] at hF
          go_wp2_with (go_at_call 155; refine hF.mono ?_; rintro e w2 ⟨rfl, ⟨v2, hv2⟩, hb2⟩)
          go_roundw
          case rel =>
            obtain ⟨hbl, hinv, hN, hstep, hd⟩ := HH.out
            obtain ⟨ht, hs1, hs2, htb, hsb⟩ := HE.out
            obtain ⟨ht2b, ht1, ht2, hsm, hb⟩ := HT.out
            have e : N * t2 + s2 = valBase b (s.data.toList.take (k + 1)) := by
              rw [hstep, HD.out, ← hN, ← ht, ← hs2, ← hs1, Nat.add_mul, Nat.mul_assoc]
              omega
            exact ⟨k + 1, by omega, rfl, (hbl.trans HV.out.2).trans hb2, v2, _, 1, 0, hv2, by decide, by decide, by decide, by omega⟩
          case measure => simp [intOf]; omega
        · clear ht2b ht2
          go_wp2
          go_roundw
          case rel =>
            obtain ⟨hbl, hinv, hN, hstep, hd⟩ := HH.out
            obtain ⟨ht, hs1, hs2, htb, hsb⟩ := HE.out
            obtain ⟨ht2b, ht1, ht2, hsm, hb⟩ := HT.out
            have hb1 : t ≤ t * b := Nat.le_mul_of_pos_right t (by omega)
            refine ⟨k + 1, by omega, rfl, hbl.trans HV.out.2, vo, N, t2, s2, HV.out.1, by omega, by omega, by omega, ?_⟩
            rw [hstep, HD.out, ← hN, ← ht, ← hs2, ← hs1, Nat.add_mul, Nat.mul_assoc]
            omega
          case measure => simp [intOf]; omega
    · have htk : s.data.toList.take k = s.data.toList := List.take_of_length_le (by have : s.data.toList.length = s.size := (by simp); omega)
      rw [htk] at hN
      have hlN : (wd N).length ≤ 10000000 := by
        have h1 : N ≤ valBase b s.data.toList := by rw [← hN]; exact Nat.le_trans (Nat.le_mul_of_pos_right N ht1) (Nat.le_add_right _ _)
        have h2 := wd_len_val hb.2 hd
        have h3 := wd_len_mono h1
        have : s.data.toList.length = s.size := by simp
        omega
      have hF := flush_any hinv (by unfold B; omega) (by unfold B; omega) hlN
      simp only [Int.toNat_natCast, hN] at hF
      have HH := Lib.hid hbl
      clear hbl hinv hN hd co ct cs ft fs gt gs
      go_wp2_with (go_at_call 155; refine hF.mono ?_; rintro e w2 ⟨rfl, ⟨v2, hv2⟩, hb2⟩; have co2 := cell_of_one hv2.o)
      go_ret
      exact ⟨_, rfl, hv2.own.mono (by omega), HH.out.trans hb2⟩
end Go.Proofs.YtkfpjhjmedodlaaGreatDoor

/- parse.reader: next, may, sign, digit. -/
set_option maxRecDepth 100000
namespace Go.Proofs.YtkfpjhjmedodlaaGreatDoor
open Go.RowKit Wd
namespace Wd
/-- The reader's block: its text and the place. -/
def RdB (b : Nat) (w : World) (s : ByteArray) (p : Nat) : Prop := w.heap[b]? = some (.cells #[.string s, .int .i64 p] 201 (0, 0)) ∧ p ≤ s.size ∧ s.size ≤ 1000000000
/-- A byte, its capital letters made small. -/
def low (c : Nat) : Nat := if 65 ≤ c ∧ c ≤ 90 then c + 32 else c
/-- The byte that stands next; 0 behind the end. -/
def nx (s : ByteArray) (p : Nat) : Nat := if h : p < s.size then low s[p].toNat else 0
theorem low_lt {c : Nat} (h : c < 256) : low c < 256 := by unfold low; split <;> omega
theorem nx_lt (s : ByteArray) (p : Nat) : nx s p < 256 := by
  unfold nx
  split
  · exact low_lt (UInt8.toNat_lt _)
  · decide
theorem nx_end {s : ByteArray} {p : Nat} (h : s.size ≤ p) : nx s p = 0 := by unfold nx; rw [dif_neg (by omega)]
theorem nx_in {s : ByteArray} {p : Nat} (h : p < s.size) : nx s p = low s[p].toNat := by unfold nx; rw [dif_pos h]
theorem RdB.c0 {b : Nat} {w : World} {s : ByteArray} {p : Nat} (h : RdB b w s p) : w.cell? ⟨b, 0, none⟩ = some (.string s) := by simp [World.cell?, h.1]
theorem RdB.c1 {b : Nat} {w : World} {s : ByteArray} {p : Nat} (h : RdB b w s p) : w.cell? ⟨b, 1, none⟩ = some (.int .i64 p) := by simp [World.cell?, h.1]
theorem RdB.f1 {b : Nat} {w : World} {s : ByteArray} {p : Nat} (h : RdB b w s p) : w.frozen? ⟨b, 1, none⟩ = false := by simp [World.frozen?, h.1]
theorem RdB.lt {b : Nat} {w : World} {s : ByteArray} {p : Nat} (h : RdB b w s p) : b < w.heap.size := lt_of_block h.1
theorem RdB.below {b : Nat} {w w' : World} {s : ByteArray} {p : Nat} (h : RdB b w s p) {n : Nat} (hn : b < n) (hb : Below n w w') : RdB b w' s p := ⟨(hb.block b hn).trans h.1, h.2⟩
theorem RdB.drew {b : Nat} {w w' : World} {s : ByteArray} {p : Nat} (h : RdB b w s p) (hb : Drew w w') : RdB b w' s p := h.below h.lt hb.below
theorem RdB.set {b : Nat} {w : World} {s : ByteArray} {p : Nat} (h : RdB b w s p) (q : Nat) (hq : q ≤ s.size) : RdB b (w.setCell ⟨b, 1, none⟩ (.int .i64 q)) s q := by
  refine ⟨?_, hq, h.2.2⟩
  simp [World.setCell, Array.getElem?_modify, h.1]
end Wd
/-- A byte is handed back; nothing but draws has happened. -/
def BytePost (c : Nat) (w : World) (e : Ending) (w' : World) : Prop := e = .returned (.int .u8 c) ∧ Drew w w'

set_option maxHeartbeats 2000000 in
theorem next_any {b : Nat} {w : World} {s : ByteArray} {p : Nat} (h : RdB b w s p) :
    Calls Tryz.prog 192 #[.pointer (some ⟨b, 0, none⟩)] w (BytePost (nx s p) w) := by
  have c0 := h.c0
  have c1 := h.c1
  have hp := h.2.1
  have hs := h.2.2
  clear h
  by_cases hps : p < s.size
  · have hn := nx_in hps
    have h256 := s[p].toNat_lt
    by_cases hc : 65 ≤ s[p].toNat ∧ s[p].toNat ≤ 90
    · obtain ⟨h1, h2⟩ := hc
      have hw : IntKind.u8.wrap ((s[p].toNat : Int) + 32) = ((s[p].toNat + 32 : Nat) : Int) := by rw [IntKind.wrap_u8]; omega
      have HF : Hid (∀ w', Drew w w' → BytePost (nx s p) w (.returned (.int .u8 ((s[p].toNat + 32 : Nat) : Int))) w') := fun w' hd => ⟨by rw [hn]; unfold low; rw [if_pos ⟨h1, h2⟩], hd⟩
      clear hn
      go_enter Tryz.func192, Tryz.ntmps192
      go_wp2
      go_quiet (fail)
      go_wp2
      go_quiet (fail)
      go_wp2
      go_ret
      exact HF.out _ (by first | exact ⟨_, rfl⟩ | exact ((Drew.refl w).step _).step _)
    · have HF : Hid (∀ w', Drew w w' → BytePost (nx s p) w (.returned (.int .u8 (s[p].toNat : Int))) w') := fun w' hd => ⟨by rw [hn]; unfold low; rw [if_neg hc], hd⟩
      clear hn
      rcases (show s[p].toNat < 65 ∨ (65 ≤ s[p].toNat ∧ 90 < s[p].toNat) by omega) with h1 | ⟨h1, h2⟩
      all_goals
        go_enter Tryz.func192, Tryz.ntmps192
        go_wp2
        go_quiet (fail)
        go_wp2
        go_quiet (fail)
        go_wp2
        go_ret
        exact HF.out _ (by first | exact ⟨_, rfl⟩ | exact ((Drew.refl w).step _).step _)
  · have HF : Hid (∀ w', Drew w w' → BytePost (nx s p) w (.returned (.int .u8 0)) w') := fun w' hd => ⟨by rw [nx_end (by omega)]; rfl, hd⟩
    go_enter Tryz.func192, Tryz.ntmps192
    go_wp2
    go_quiet (fail)
    go_wp2
    go_ret
    exact HF.out _ (Drew.refl w |>.step _)
end Go.Proofs.YtkfpjhjmedodlaaGreatDoor

/- parse.reader: may, sign; digit. -/
set_option maxRecDepth 100000
namespace Go.Proofs.YtkfpjhjmedodlaaGreatDoor
open Go.RowKit Wd
namespace Wd
/-- Of what stood before, the block b alone may be another. -/
structure Only (b : Nat) (w w' : World) : Prop where
  os : w'.os = w.os
  tape : w'.tape = w.tape
  output : w'.output = w.output
  size : w.heap.size ≤ w'.heap.size
  block : ∀ k, k < w.heap.size → k ≠ b → w'.heap[k]? = w.heap[k]?
theorem Only.refl (b : Nat) (w : World) : Only b w w := ⟨rfl, rfl, rfl, Nat.le_refl _, fun _ _ _ => rfl⟩
theorem Only.of {b : Nat} {w w' : World} (h : Below w.heap.size w w') : Only b w w' := ⟨h.os, h.tape, h.output, h.size, fun k hk _ => h.block k hk⟩
theorem Only.drew {b : Nat} {w w' : World} (h : Drew w w') : Only b w w' := .of h.below
theorem Only.set (b : Nat) (w : World) (o : Nat) (v : Value) : Only b w (w.setCell ⟨b, o, none⟩ v) := ⟨rfl, rfl, rfl, by simp [World.setCell], fun k _ hk => Below.heap_setCell _ _ _ _ hk⟩
theorem Only.trans {b : Nat} {a c d : World} (h : Only b a c) (k : Only b c d) : Only b a d :=
  ⟨k.os.trans h.os, k.tape.trans h.tape, k.output.trans h.output, Nat.le_trans h.size k.size, fun i hi hb => (k.block i (Nat.lt_of_lt_of_le hi h.size) hb).trans (h.block i hi hb)⟩
theorem Only.below {b B : Nat} {w w' : World} (h : Only b w w') (hB : B ≤ b) (hb : b ≤ w.heap.size) : Below B w w' := ⟨h.os, h.tape, h.output, h.size, fun k hk => h.block k (by omega) (by omega)⟩
/-- Is the byte a digit? -/
def isdig (c : Nat) (x : Bool) : Bool := decide (48 ≤ c ∧ c ≤ 57) || (x && decide (97 ≤ c ∧ c ≤ 102))
end Wd
/-- A value is handed back and nothing else has happened. -/
def PureP (v : Value) (w : World) (e : Ending) (w' : World) : Prop := e = .returned v ∧ w = w'
theorem digit_any (c : Nat) (x : Bool) (w : World) : Calls Tryz.prog 191 #[.int .u8 c, .bool x] w (PureP (.bool (isdig c x)) w) := by
  have HF : Hid (∀ r, isdig c x = r → PureP (.bool (isdig c x)) w (.returned (.bool r)) w) := fun r h => ⟨by rw [h], rfl⟩
  rcases (show c < 48 ∨ (48 ≤ c ∧ c ≤ 57) ∨ (57 < c ∧ c < 97) ∨ (97 ≤ c ∧ c ≤ 102) ∨ 102 < c by omega) with h1 | ⟨h1, h2⟩ | ⟨h1, h2⟩ | ⟨h1, h2⟩ | h1 <;> cases x
  all_goals
    go_enter Tryz.func191, Tryz.ntmps191
    go_wp2
    go_ret
    refine HF.out _ ?_
    unfold isdig
    first | (simp; done) | (simp; omega) | (rw [Bool.eq_iff_iff]; simp; omega)
/-- What 'may' leaves: whether the byte stood next, the reader behind it. -/
def MayPost (b : Nat) (s : ByteArray) (p : Nat) (c : Nat) (w : World) (e : Ending) (w' : World) : Prop :=
  e = .returned (.bool (decide (nx s p = c ∧ c ≠ 0))) ∧ RdB b w' s (if nx s p = c ∧ c ≠ 0 then p + 1 else p) ∧ Only b w w'

set_option maxHeartbeats 2000000 in
theorem may_any {b : Nat} {w : World} {s : ByteArray} {p : Nat} (h : RdB b w s p) (c : Nat) (hc : c ≠ 0) :
    Calls Tryz.prog 188 #[.pointer (some ⟨b, 0, none⟩), .int .u8 c] w (MayPost b s p c w) := by
  have hn := next_any h
  have hp1 := h.2.1
  have hp2 := h.2.2
  have HI := Lib.hid h
  clear h
  go_enter Tryz.func188, Tryz.ntmps188
  go_wp2_with fail
  refine hn.mono ?_
  rintro e w1 ⟨rfl, hd⟩
  have h1 := HI.out.drew hd
  clear hn
  by_cases he : nx s p = c
  · have HF : Hid (∀ w', RdB b w' s (p + 1) → Only b w w' → MayPost b s p c w (.returned (.bool true)) w') := fun w' hr ho => ⟨by rw [decide_eq_true ⟨he, hc⟩], by rw [if_pos ⟨he, hc⟩]; exact hr, ho⟩
    have hps : p < s.size := by
      rcases Nat.lt_or_ge p s.size with h | h
      · exact h
      · rw [nx_end h] at he; omega
    have c1 := h1.c1
    have f1 := h1.f1
    have hb1 : ((nx s p : Int) != (c : Int)) = false := by rw [he]; simp
    have hb2 : ((c : Int) == 0) = false := beq_eq_false_iff_ne.2 (by omega)
    have hw : IntKind.i64.wrap ((p : Int) + 1) = ((p + 1 : Nat) : Int) := by rw [IntKind.wrap_i64]; omega
    have HE := Lib.hid (And.intro h1 (And.intro hd he))
    clear h1 hd he
    go_wp2
    go_ret
    obtain ⟨h1, hd, he⟩ := HE.out
    exact HF.out _ (h1.set (p + 1) hps) ((Only.drew hd).trans (Only.set b w1 1 _))
  · have HF : Hid (∀ w', RdB b w' s p → Only b w w' → MayPost b s p c w (.returned (.bool false)) w') := fun w' hr ho => ⟨by rw [decide_eq_false (fun h => he h.1)], by rw [if_neg (fun h => he h.1)]; exact hr, ho⟩
    have hb1 : ((nx s p : Int) != (c : Int)) = true := bne_iff_ne.2 (by omega)
    have HE := Lib.hid (And.intro h1 (And.intro hd he))
    clear h1 hd he
    go_wp2
    go_ret
    obtain ⟨h1, hd, he⟩ := HE.out
    exact HF.out _ h1 (Only.drew hd)
end Go.Proofs.YtkfpjhjmedodlaaGreatDoor

/- parse.reader: sign; the digits' plain scan. -/
set_option maxRecDepth 100000
namespace Go.Proofs.YtkfpjhjmedodlaaGreatDoor
open Go.RowKit Wd
namespace Wd
/-- Does a sign stand next? -/
def isSign (s : ByteArray) (p : Nat) : Bool := decide (nx s p = 45 ∨ nx s p = 43)
def afterSign (s : ByteArray) (p : Nat) : Nat := if nx s p = 45 ∨ nx s p = 43 then p + 1 else p
end Wd
/-- sign's results: negative? was there a sign?; the reader behind it. -/
def SignPost (b : Nat) (s : ByteArray) (p : Nat) (w : World) (e : Ending) (w' : World) : Prop :=
  e = .returned (.tuple #[.bool (decide (nx s p = 45)), .bool (isSign s p)]) ∧ RdB b w' s (afterSign s p) ∧ Only b w w'
set_option maxHeartbeats 2000000 in
theorem sign_any {b : Nat} {w : World} {s : ByteArray} {p : Nat} (h : RdB b w s p) :
    Calls Tryz.prog 138 #[.pointer (some ⟨b, 0, none⟩)] w (SignPost b s p w) := by
  have hm := may_any h 45 (by decide)
  go_enter Tryz.func138, Tryz.ntmps138
  go_wp2_with fail
  refine hm.mono ?_
  rintro e w1 ⟨rfl, hr, ho⟩
  clear hm
  by_cases h45 : nx s p = 45
  · have hc : nx s p = 45 ∧ 45 ≠ 0 := ⟨h45, by decide⟩
    rw [decide_eq_true hc]
    rw [if_pos hc] at hr
    have HF : SignPost b s p w (.returned (.tuple #[.bool true, .bool true])) w1 := ⟨by unfold isSign; rw [decide_eq_true h45, decide_eq_true (Or.inl h45)], by unfold afterSign; rw [if_pos (Or.inl h45)]; exact hr, ho⟩
    clear h45 hc hr ho
    go_wp2
    go_ret2
    exact HF
  · have hc : ¬ (nx s p = 45 ∧ 45 ≠ 0) := fun e => h45 e.1
    rw [decide_eq_false hc]
    rw [if_neg hc] at hr
    have hm2 := may_any hr 43 (by decide)
    obtain ⟨r, hrr⟩ : ∃ r, decide (nx s p = 43 ∧ 43 ≠ 0) = r := ⟨_, rfl⟩
    have HF : Hid (∀ w', MayPost b s p 43 w1 (.returned (.bool (decide (nx s p = 43 ∧ 43 ≠ 0)))) w' → SignPost b s p w (.returned (.tuple #[.bool false, .bool r])) w') := fun w' hp => by
      obtain ⟨-, hr2, ho2⟩ := hp
      refine ⟨?_, ?_, ho.trans ho2⟩
      · unfold isSign
        rw [decide_eq_false h45, ← hrr]
        have : decide (nx s p = 43 ∧ 43 ≠ 0) = decide (nx s p = 45 ∨ nx s p = 43) := by rw [decide_eq_decide]; simp [h45]
        rw [this]
      · unfold afterSign
        simpa [h45] using hr2
    clear h45 hc hr ho
    go_wp2_with fail
    refine hm2.mono ?_
    rintro e w2 ⟨rfl, hr2, ho2⟩
    have HG := Lib.hid (HF.out w2 ⟨rfl, hr2, ho2⟩)
    rw [hrr]
    clear HF hr2 ho2 hm2 hrr
    go_wp2
    go_ret2
    exact HG.out
end Go.Proofs.YtkfpjhjmedodlaaGreatDoor

/- strings.Builder: copyCheck and WriteByte, whose bodies this program holds in a form of its own. -/
set_option maxRecDepth 100000
namespace Go.Proofs.YtkfpjhjmedodlaaGreatDoor
open Go.RowKit Wd
theorem size_builder : (Tryz.prog.info? 130).map (·.size) = some 2 := by kernel_rfl
theorem lies_builder : liesAt Tryz.prog Tryz.prog.depth 130 (2 / Tryz.prog.cellsOf 130) 0 130 1 = true := by kernel_rfl
theorem und_pbuilder : Tryz.prog.underlying 127 = some (.pointer 130) := by kernel_rfl
theorem und_unsafe : Tryz.prog.underlying 234 = some .unsafePointer := by kernel_rfl
theorem und_bytes : Tryz.prog.underlying 128 = some (.slice 5) := by kernel_rfl
theorem info_u8 : (Tryz.prog.info? 5).map (fun i => (i.zero, i.size, i.bytes)) = some (some (.int .u8 0), 1, 1) := by kernel_rfl

set_option maxHeartbeats 1000000 in
theorem copyCheck_used (b : Nat) (w : World) (h0 : w.cell? ⟨b, 0, none⟩ = some (.pointer (some ⟨b, 0, none⟩))) :
    Calls Tryz.prog 131 #[.pointer (some ⟨b, 0, none⟩)] w fun e w' => e = .returned (.tuple #[]) ∧ w' = w := by
  obtain ⟨j, hj, _⟩ := Option.map_eq_some_iff.1 size_builder
  go_enter Tryz.func131, Tryz.ntmps131
  go_wp2
  rw [Lib.run_neq_ptr_same w _ und_pbuilder hj]
  go_wp2
  go_end0
  exact ⟨rfl, rfl⟩

set_option maxHeartbeats 1000000 in
theorem copyCheck_fresh (b : Nat) (w : World) (h0 : w.cell? ⟨b, 0, none⟩ = some (.pointer none)) (hsh : w.shape? b = some (130, 2)) (hfz : w.frozen? ⟨b, 0, none⟩ = false) :
    Calls Tryz.prog 131 #[.pointer (some ⟨b, 0, none⟩)] w fun e w' => e = .returned (.tuple #[]) ∧ w' = w.setCell ⟨b, 0, none⟩ (.pointer (some ⟨b, 0, none⟩)) := by
  obtain ⟨j, hj, hjs⟩ := Option.map_eq_some_iff.1 size_builder
  go_enter Tryz.func131, Tryz.ntmps131
  go_wp2
  rw [Lib.run_to_unsafe w ⟨b, 0, none⟩ und_pbuilder und_unsafe hj (by rw [hjs]; decide) hsh (Nat.zero_lt_succ 1)]
  simp only [Result.andThen]
  rw [Oper.upon_value]
  go_wp2
  rw [run_callFunc_extern Tryz.func181 (by kernel_rfl) (by kernel_rfl) (by kernel_rfl) (e := Extern.AbiNoEscape.same) (by kernel_rfl)]
  rw [Lib.run_noEscape]
  simp only [Result.andThen]
  rw [Oper.upon_value]
  go_wp2
  rw [Lib.run_from_unsafe w ⟨b, 0, none⟩ und_unsafe und_pbuilder hj hsh lies_builder]
  simp only [Result.andThen]
  rw [Oper.upon_value]
  go_wp2
  go_end0
  exact ⟨rfl, rfl⟩

theorem copyCheck_any (B b : Nat) (bs : List Value) (w : World) (h : Lib.IsBuilder 130 5 B b bs w) :
    Calls Tryz.prog 131 #[.pointer (some ⟨b, 0, none⟩)] w fun e w' => e = .returned (.tuple #[]) ∧ (Lib.BuilderAt 130 5 B b (.pointer (some ⟨b, 0, none⟩)) bs w' ∧ Below B w w') := by
  rcases h with h | h
  · refine (copyCheck_fresh b w h.cell0 h.shape h.frozen0).mono ?_
    rintro e w' ⟨rfl, rfl⟩
    exact ⟨rfl, h.used _, (Below.refl B w).setCell (p := ⟨b, 0, none⟩) h.1 _⟩
  · refine (copyCheck_used b w h.cell0).mono ?_
    rintro e w' ⟨rfl, rfl⟩
    exact ⟨rfl, h, Below.refl B _⟩

set_option maxHeartbeats 2000000 in
theorem writeByte_any (B b : Nat) (bs : List Value) (c : Int) (w : World) (h : Lib.IsBuilder 130 5 B b bs w) (hlen : bs.length + 1 ≤ 140737488355328) (hBw : B ≤ w.heap.size) :
    Calls Tryz.prog 193 #[.pointer (some ⟨b, 0, none⟩), .int .u8 c] w fun e w' => e = .returned .nilIface ∧ (Lib.BuilderAt 130 5 B b (.pointer (some ⟨b, 0, none⟩)) (bs ++ [.int .u8 c]) w' ∧ Below B w w') := by
  obtain ⟨i0, hi, hz0, hz1, hz2⟩ := info_parts info_u8
  go_enter Tryz.func193, Tryz.ntmps193
  go_wp2_with (go_at_call 131; refine (copyCheck_any B b bs _ h).mono ?_)
  rintro e w1 ⟨rfl, h1, hb1⟩
  obtain ⟨hB, v, hbk, hown, hne⟩ := h1
  have c0 : w1.cell? ⟨b, 0, none⟩ = some (.pointer (some ⟨b, 0, none⟩)) := by rw [Lib.cell_of_heap hbk]; rfl
  have c1 : w1.cell? ⟨b, 1, none⟩ = some v := by rw [Lib.cell_of_heap hbk]; rfl
  go_wp2_with (at_builtin; refine wpList_append_own _ rfl _ _ 128 rfl B 5 i0 (.int .u8 0) 1 1 und_bytes hi hz0 hz1 hz2 rfl (by decide) _ _ _ rfl (hown.alloc _) ⟨w1.heap.size, 0, none⟩ 1 1 [.int .u8 c] rfl rfl ?c1 ?c2 ?c3 ?c4 ?c5 ?_)
  case c1 =>
    intro j u hj
    match j, hj with
    | 0, hj => simp at hj; subst hj; simp [Addr.add]
  case c2 => intro u hu; simp at hu; subst hu; rfl
  case c3 => unfold maxLen; omega
  case c4 => omega
  case c5 => have := hb1.size; simp; omega
  intro v' w2 hown' hgrow _
  have hlt : b < w1.heap.size := by
    rcases Nat.lt_or_ge b w1.heap.size with h' | h'
    · exact h'
    · simp [Array.getElem?_eq_none h'] at hbk
  have hb2 : w2.heap[b]? = some (.cells #[.pointer (some ⟨b, 0, none⟩), v] 130 (0, 0)) := by
    rw [hgrow.block b (by simp; omega) (fun e => hne e.symm), Lib.alloc_old w1 _ b hlt]
    exact hbk
  have d0 : w2.cell? ⟨b, 0, none⟩ = some (.pointer (some ⟨b, 0, none⟩)) := by rw [Lib.cell_of_heap hb2]; rfl
  have d1 : w2.cell? ⟨b, 1, none⟩ = some v := by rw [Lib.cell_of_heap hb2]; rfl
  have f1 : w2.frozen? ⟨b, 1, none⟩ = false := Lib.frozen_of_heap hb2 1
  obtain ⟨g, cap, rfl⟩ : ∃ g cap, v' = .slice (some ⟨g, 0, none⟩) (bs.length + 1) cap := by
    rcases hown'.2 with ⟨_, h0⟩ | ⟨g, cap, cur, hv, _⟩
    · omega
    · exact ⟨g, cap, hv⟩
  go_wp2
  go_ret
  refine ⟨rfl, ?_, ?_⟩
  · exact Lib.BuilderAt.put (T := 130) (e := 5) hB hb2 (bs' := bs ++ [.int .u8 c]) (by simpa using hown') (by decide)
  · exact ((hb1.alloc (by have := hb1.size; omega) _).grown hgrow (by have := hb1.size; simp; omega) (fun k hk => (hown.lt k hk).1)).setCell (p := ⟨b, 1, none⟩) hB _
end Go.Proofs.YtkfpjhjmedodlaaGreatDoor
