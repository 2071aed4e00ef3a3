/- What parse gives at texts that are too long, and what the law ParseLong answers. -/
import Derived.Test.YtkfpjhjmedodlaaGreatDoorPm
/- A text that is too long: parse.Float, Decimal, Exact, Rational; the laws' checks of their answers. -/
set_option maxRecDepth 100000
namespace Go.Proofs.YtkfpjhjmedodlaaGreatDoor
open Go.RowKit Wd
namespace Wd
theorem rat_val2 {k : Nat} {w : World} {a b c : Value} (h : Blk3 32 k w a b c) (fn : Func) (t u : Tmp) (hf : fn.results = #[.cell t 32, .tmp u]) (tmps : Array Value) (ht : tmps.getD t undef = .pointer (some ⟨k, 0, none⟩)) :
    (results fn tmps).run Tryz.prog w = .ok (.tuple #[.agg #[a, b, c], tmps.getD u undef]) w := by
  obtain ⟨k0, k1, k2⟩ := h.cells
  have ht' : tmps[t]?.getD undef = .pointer (some ⟨k, 0, none⟩) := by simpa using ht
  simp [results, hf, ht', go_sem, k0, k1, k2]
abbrev zeroFlo : Value := .agg #[.int .i64 0, .bool false, .int .i64 0, .slice none 0 0]
abbrev zeroDec : Value := .agg #[.int .i64 0, .bool false, .slice none 0 0, .int .i64 0]
abbrev zeroRat : Value := .agg #[.bool false, .slice none 0 0, .slice none 0 0]
end Wd
set_option maxHeartbeats 1000000 in
theorem pfloat_long (s : ByteArray) (hs : 65536 < s.size) (fe fp md : Int) (w : World) :
    Calls Tryz.prog 15 #[.agg #[.int .i64 fe, .int .i64 fp], .int .i64 md, .string s] w (ValPost (.tuple #[zeroFlo, .int .i64 0, .int .i64 2]) w) := by
  have h65 : (65536 : Int) < (s.size : Int) := by omega
  clear hs
  go_enter Tryz.func15, Tryz.ntmps15
  go_wp2
  have hk : Blk4 48 (w.heap.size + 1) ((w.alloc (.cells #[.int .i64 fe, .int .i64 fp] 42)).alloc (.cells #[.int .i64 0, .bool false, .int .i64 0, .slice none 0 0] 48)) (.int .i64 0) (.bool false) (.int .i64 0) (.slice none 0 0) := by
    show ((w.heap.push _).push _)[w.heap.size + 1]? = _
    rw [Array.getElem?_push, if_pos (by simp)]
  refine bodyPost_ret (flo_val3 hk Tryz.f15 _ _ _ rfl _ rfl) rfl ?_
  exact ⟨rfl, ((Below.refl _ w).alloc (Nat.le_refl _) _).alloc (by simp) _⟩
set_option maxHeartbeats 1000000 in
theorem pdec_long (s : ByteArray) (hs : 65536 < s.size) (a b c : Int) (w : World) :
    Calls Tryz.prog 20 #[.agg #[.int .i64 a, .int .i64 b, .int .i64 c], .string s] w (ValPost (.tuple #[zeroDec, .int .i64 0, .int .i64 2]) w) := by
  have h65 : (65536 : Int) < (s.size : Int) := by omega
  clear hs
  go_enter Tryz.func20, Tryz.ntmps20
  go_wp2
  have hk : Blk4 60 (w.heap.size + 1) ((w.alloc (.cells #[.int .i64 a, .int .i64 b, .int .i64 c] 56)).alloc (.cells #[.int .i64 0, .bool false, .slice none 0 0, .int .i64 0] 60)) (.int .i64 0) (.bool false) (.slice none 0 0) (.int .i64 0) := by
    show ((w.heap.push _).push _)[w.heap.size + 1]? = _
    rw [Array.getElem?_push, if_pos (by simp)]
  refine bodyPost_ret (dec_val3 hk Tryz.f20 _ _ _ rfl _ rfl) rfl ?_
  exact ⟨rfl, ((Below.refl _ w).alloc (Nat.le_refl _) _).alloc (by simp) _⟩
set_option maxHeartbeats 1000000 in
theorem pexact_long (s : ByteArray) (hs : 65536 < s.size) (hs2 : s.size ≤ 1000000000) (w : World) :
    Calls Tryz.prog 21 #[.string s] w (ValPost (.tuple #[zeroDec, .int .i64 2]) w) := by
  have hd := fun w => dec_long s hs hs2 w
  unfold zeroN numV at hd
  clear hs hs2
  go_enter Tryz.func21, Tryz.ntmps21
  go_wp2_with fail
  refine (hd _).mono ?_
  rintro e w1 ⟨rfl, hb⟩
  clear hd
  have HB := Lib.hid hb
  have hk : Blk4 60 w.heap.size w1 (.int .i64 0) (.bool false) (.slice none 0 0) (.int .i64 0) := (hb.block _ (by simp)).trans (heap_alloc_new w _)
  clear hb
  have hal : Below w1.heap.size w1 (w1.alloc (.cells #[.int .i64 0, .bool false, .string ⟨#[]⟩, .int .i64 0, .int .i64 0, .int .i64 0, .bool false] 92)) := (Below.refl _ w1).alloc (Nat.le_refl _) _
  have hk2 := hk.below hal (lt_of_block hk)
  obtain ⟨k0, k1, k2, k3⟩ := hk2.cells
  have g0 := hk2.free 0
  have g1 := hk2.free 1
  have g2 := hk2.free 2
  have g3 := hk2.free 3
  go_wp2
  have H := hk2.sets (.int .i64 0) (.bool false) (.slice none 0 0) (.int .i64 0)
  refine bodyPost_ret (dec_val2 H Tryz.f21 _ _ rfl _ rfl) rfl ?_
  exact ⟨rfl, below_sets4 ((((Below.refl _ w).alloc (Nat.le_refl _) _).trans (HB.out.mono (by simp))).trans (hal.mono (Nat.le_trans (by simp) HB.out.size))) (Nat.le_refl _) _ _ _ _⟩
set_option maxHeartbeats 1000000 in
theorem prat_long (s : ByteArray) (hs : 65536 < s.size) (w : World) :
    Calls Tryz.prog 10 #[.string s] w (ValPost (.tuple #[zeroRat, .int .i64 2]) w) := by
  have h65 : (65536 : Int) < (s.size : Int) := by omega
  clear hs
  go_enter Tryz.func10, Tryz.ntmps10
  go_wp2
  have hk : Blk3 32 w.heap.size (w.alloc (.cells #[.bool false, .slice none 0 0, .slice none 0 0] 32)) (.bool false) (.slice none 0 0) (.slice none 0 0) := heap_alloc_new w _
  refine bodyPost_ret (rat_val2 hk Tryz.f10 _ _ rfl _ rfl) rfl ?_
  exact ⟨rfl, (Below.refl _ w).alloc (Nat.le_refl _) _⟩

set_option maxHeartbeats 1000000 in
theorem fnone (w : World) : Calls Tryz.prog 74 #[zeroFlo] w (ValPost (.bool true) w) := by
  go_enter Tryz.func74, Tryz.ntmps74
  go_wp2
  go_ret
  exact ⟨rfl, (Below.refl _ w).alloc (Nat.le_refl _) _⟩
set_option maxHeartbeats 1000000 in
theorem dnone (w : World) : Calls Tryz.prog 76 #[zeroDec] w (ValPost (.bool true) w) := by
  go_enter Tryz.func76, Tryz.ntmps76
  go_wp2
  go_ret
  exact ⟨rfl, (Below.refl _ w).alloc (Nat.le_refl _) _⟩
set_option maxHeartbeats 1000000 in
theorem norat (w : World) : Calls Tryz.prog 12 #[zeroRat] w (ValPost (.bool true) w) := by
  go_enter Tryz.func12, Tryz.ntmps12
  go_wp2
  go_ret
  exact ⟨rfl, ((Below.refl _ w).alloc (Nat.le_refl _) _).alloc (by simp) _⟩
end Go.Proofs.YtkfpjhjmedodlaaGreatDoor

/- The text of zeros alone. -/
set_option maxRecDepth 100000
namespace Go.Proofs.YtkfpjhjmedodlaaGreatDoor
open Go.RowKit Wd
namespace Wd
/-- n zeros. -/
def zs (n : Nat) : ByteArray := ⟨(List.replicate n (48 : UInt8)).toArray⟩
theorem zs_size (n : Nat) : (zs n).size = n := by simp [zs, ByteArray.size]
theorem zs_list (n : Nat) : (zs n).data.toList = List.replicate n 48 := by simp [zs]
theorem zs_at {n p : Nat} (h : p < (zs n).size) : (zs n)[p].toNat = 48 := by
  have h1 : p < (zs n).data.toList.length := by simpa using h
  have hget : (zs n).data.toList[p] = (zs n)[p] := by rw [Array.getElem_toList]; rfl
  rw [← hget]
  simp [zs]
theorem zs_nx {n p : Nat} (h : p < n) : nx (zs n) p = 48 := by
  have h1 : p < (zs n).size := by rw [zs_size]; exact h
  rw [nx_in h1, zs_at h1]
  rfl
theorem zs_nx_end (n : Nat) : nx (zs n) n = 0 := nx_end (by rw [zs_size]; exact Nat.le_refl _)
theorem zs_asc (n : Nat) : Asc (zs n) := asc_of (by
  rw [zs_list]
  intro b hb
  rw [List.eq_of_mem_replicate hb]
  decide)
theorem zs_sign {n : Nat} (h : 0 < n) : isSign (zs n) 0 = false ∧ afterSign (zs n) 0 = 0 := by
  unfold isSign afterSign
  rw [zs_nx h]
  exact ⟨by decide, by decide⟩
theorem zs_extract (n m : Nat) : ((zs n).extract 0 m).data.toList = List.replicate (min m n) 48 := by
  simp [zs, ByteArray.data_extract]
theorem zs_word {n : Nat} (t : ByteArray) (c : UInt8) (l : List UInt8) (ht : t.data.toList = c :: l) (h : Lib.foldEq 48 c = false) : wordAt (zs n) 0 t = false := by
  unfold wordAt
  rw [zs_extract, ht]
  have : t.size = l.length + 1 := by
    have : t.data.toList.length = t.size := by simp
    rw [← this, ht]
    rfl
  by_cases hn : 0 + t.size ≤ (zs n).size
  · have h2 : min (0 + t.size) n = l.length + 1 := by
      rw [zs_size] at hn
      omega
    rw [h2, List.replicate_succ, Lib.equalFold_no _ _ _ _ h, Bool.and_false]
  · rw [decide_eq_false hn, Bool.false_and]
theorem zs_hex {n : Nat} (hn2 : 2 ≤ n) : wordAt (zs n) 0 w0x = false := by
  unfold wordAt
  rw [zs_extract]
  have h2 : min (0 + w0x.size) n = 2 := by
    have : w0x.size = 2 := rfl
    omega
  rw [h2]
  have : Lib.equalFold (List.replicate 2 48) w0x.data.toList = false := by decide
  rw [this, Bool.and_false]
theorem zs_plain {n : Nat} (h : 2 ≤ n) : Plain (zs n) := by
  have hs := zs_sign (n := n) (by omega)
  refine ⟨zs_asc n, ?_, ?_, .inr ?_, ?_⟩ <;> rw [hs.2]
  · exact zs_word _ 105 [110, 102, 105, 110, 105, 116, 121] rfl (by decide)
  · exact zs_word _ 105 [110, 102] rfl (by decide)
  · exact zs_word _ 110 [97, 110] rfl (by decide)
  · exact zs_hex h
theorem zs_scan (n : Nat) : ∀ (k p : Nat) (acc : List UInt8), p + k = n → dscan (zs n) false k p false acc 0 = (acc ++ List.replicate k 48, 0, n)
  | 0, p, acc, h => by simp [dscan]; omega
  | k + 1, p, acc, h => by
    have hp : p < n := by omega
    rw [dscan, zs_nx hp, if_pos (by decide), if_neg (by simp), zs_scan n k (p + 1) _ (by omega)]
    simp [List.replicate_succ]
theorem zs_lgD {n : Nat} (h : 2 ≤ n) : lgD (zs n) = (List.replicate n 48, 0, n) := by
  unfold lgD digs
  rw [(zs_sign (n := n) (by omega)).2, zs_size, Nat.sub_zero, zs_scan n n 0 [] (by omega)]
  rfl
theorem zs_lgX {n : Nat} (h : 2 ≤ n) : lgX (zs n) = (0, false, n) := by
  unfold lgX expo
  rw [zs_lgD h, zs_nx_end, if_neg (by decide)]
theorem zs_len {n : Nat} (h : 2 ≤ n) : lgLen (zs n) = n := by
  unfold lgLen
  rw [zs_lgX h, zs_lgD h, if_neg (by simp)]
theorem zs_ok {n : Nat} (h : 2 ≤ n) : rdOk (zs n) = true := by
  unfold rdOk
  rw [zs_lgD h, zs_len h, zs_size]
  simp
  omega
theorem zs_lgN {n : Nat} (h : 2 ≤ n) : lgN (zs n) = n := by
  unfold lgN
  rw [zs_lgD h, zs_len h, if_pos (by simp; omega)]
theorem zs_repeat (n : Nat) : (⟨(Lib.repeatL (⟨#[48]⟩ : ByteArray).data.toList n).toArray⟩ : ByteArray) = zs n := by
  unfold zs
  congr 2
  show Lib.repeatL [48] n = List.replicate n 48
  induction n with
  | zero => rfl
  | succ n ih => rw [Lib.repeatL, ih, List.replicate_succ]; rfl
end Wd
end Go.Proofs.YtkfpjhjmedodlaaGreatDoor

/- parse.Decimal at 123456, parse.Exact at -1.20. -/
set_option maxRecDepth 100000
namespace Go.Proofs.YtkfpjhjmedodlaaGreatDoor
open Go.RowKit Wd
set_option maxHeartbeats 1000000 in
theorem special_any (neg : Bool) (ds : ByteArray) (fr ex len : Int) (ns : Bool) (w : World) :
    Calls Tryz.prog 72 #[numV 0 neg ds fr ex len ns] w (ValPost (.tuple #[zeroDec, .bool false]) w) := by
  unfold numV
  go_enter Tryz.func72, Tryz.ntmps72
  go_wp2
  have hk : Blk4 60 (w.heap.size + 1) ((w.alloc (.cells #[.int .i64 0, .bool neg, .string ds, .int .i64 fr, .int .i64 ex, .int .i64 len, .bool ns] 92)).alloc (.cells #[.int .i64 0, .bool false, .slice none 0 0, .int .i64 0] 60)) (.int .i64 0) (.bool false) (.slice none 0 0) (.int .i64 0) := by
    show ((w.heap.push _).push _)[w.heap.size + 1]? = _
    rw [Array.getElem?_push, if_pos (by simp)]
  refine bodyPost_ret (dec_val2 hk Tryz.f72 _ _ rfl _ rfl) rfl ?_
  exact ⟨rfl, ((Below.refl _ w).alloc (Nat.le_refl _) _).alloc (by simp) _⟩
/-- A decimal, the flag 1, no error. -/
def PDecPost (w : World) (en : Ending) (w' : World) : Prop := ∃ v, en = .returned (.tuple #[decV false v 1, .int .i64 1, .int .i64 0]) ∧ Own w.heap.size w' v (wd 12346) ∧ Below w.heap.size w w'
set_option maxHeartbeats 8000000 in
theorem pdec_b (w : World) (hG : Glob w) (hM : More w) :
    Calls Tryz.prog 20 #[c510, .string ⟨#[49, 50, 51, 52, 53, 54]⟩] w (PDecPost w) := by
  go_enter Tryz.func20, Tryz.ntmps20
  go_wp2_with fail
  generalize hW : World.alloc _ _ = W
  have hk : Blk4 60 (w.heap.size + 1) W (.int .i64 0) (.bool false) (.slice none 0 0) (.int .i64 0) := by
    rw [← hW]
    show ((w.heap.push _).push _)[w.heap.size + 1]? = _
    rw [Array.getElem?_push, if_pos (by simp)]
  have hf : W.heap[w.heap.size]? = some (.cells #[.int .i64 5, .int .i64 10, .int .i64 0] 56 (0, 0)) := by
    rw [← hW]
    show ((w.heap.push _).push _)[w.heap.size]? = _
    rw [Array.getElem?_push, if_neg (by simp), Array.getElem?_push, if_pos (by simp)]
  have hb : Below w.heap.size w W := by
    rw [← hW]
    exact ((Below.refl _ w).alloc (Nat.le_refl _) _).alloc (by simp) _
  have hsz : w.heap.size + 1 < W.heap.size := lt_of_block hk
  clear hW
  have hG := hG.below hb
  have hM := hM.below hb
  refine (dcheck510 _).mono ?_
  rintro e w1 ⟨rfl, b1⟩
  go_wp2_with fail
  refine (dec_ok t123 plain123 (by decide) rd123 _).mono ?_
  rintro e w2 ⟨rfl, b2⟩
  rw [lgV123]
  have hB2 := below_trans b1 b2
  unfold numV
  have hal : Below w2.heap.size w2 (w2.alloc (.cells #[.int .i64 0, .bool false, .string ⟨#[49, 50, 51, 52, 53, 54]⟩, .int .i64 0, .int .i64 0, .int .i64 6, .bool true] 92)) := (Below.refl _ w2).alloc (Nat.le_refl _) _
  have hn : NumB w2.heap.size (w2.alloc (.cells #[.int .i64 0, .bool false, .string ⟨#[49, 50, 51, 52, 53, 54]⟩, .int .i64 0, .int .i64 0, .int .i64 6, .bool true] 92)) 0 false ⟨#[49, 50, 51, 52, 53, 54]⟩ 0 0 6 true := heap_alloc_new w2 _
  obtain ⟨W2, hW2⟩ : ∃ W2, w2.alloc (.cells #[.int .i64 0, .bool false, .string ⟨#[49, 50, 51, 52, 53, 54]⟩, .int .i64 0, .int .i64 0, .int .i64 6, .bool true] 92) = W2 := ⟨_, rfl⟩
  rw [hW2] at hal hn
  have HB2 := Lib.hid (below_trans hB2 hal)
  obtain ⟨n0, n1, n2, n3, n4, n5, n6⟩ := hn.cells
  clear b1 b2 hal hB2
  have hsp := special_any false ⟨#[49, 50, 51, 52, 53, 54]⟩ 0 0 6 true W2
  unfold numV at hsp
  go_wp2_with fail
  clear hW2
  refine hsp.mono ?_
  rintro e w3 ⟨rfl, b3⟩
  have hal : Below w3.heap.size w3 (w3.alloc (.cells #[.int .i64 0, .bool false, .slice none 0 0, .int .i64 0] 60)) := (Below.refl _ w3).alloc (Nat.le_refl _) _
  have hB3 := below_trans b3 hal
  have hn3 := hn.only (Only.of (b := W2.heap.size) hB3) (Nat.ne_of_lt (lt_of_block hn))
  have HB3 := Lib.hid (below_trans HB2.out hB3)
  clear n0 n1 n2 n3 n4 n5 n6 hn hsp b3 hal hB3 HB2
  obtain ⟨n0, n1, n2, n3, n4, n5, n6⟩ := hn3.cells
  have hmg := mag_any false ⟨#[49, 50, 51, 52, 53, 54]⟩ 0 0 6 true digs123 (by decide) 0 (by decide) (w3.alloc (.cells #[.int .i64 0, .bool false, .slice none 0 0, .int .i64 0] 60))
  rw [val123] at hmg
  unfold numV at hmg
  go_wp2_with fail
  refine hmg.mono ?_
  rintro e w4 ⟨v4, rfl, o4, b4⟩
  have m1 := cell_keep b4 n1
  have hB4 := below_trans HB3.out b4
  have hfi := dfinish_b (o4.nm (wd_one (by decide))) (hG.below hB4) (hM.below hB4)
  have c0 : w4.cell? ⟨w.heap.size, 0, none⟩ = some (.int .i64 5) := Lib.cell_of_heap ((hB4.block _ (by omega)).trans hf) 0
  have c1 : w4.cell? ⟨w.heap.size, 1, none⟩ = some (.int .i64 10) := Lib.cell_of_heap ((hB4.block _ (by omega)).trans hf) 1
  have c2 : w4.cell? ⟨w.heap.size, 2, none⟩ = some (.int .i64 0) := Lib.cell_of_heap ((hB4.block _ (by omega)).trans hf) 2
  have HB4 := Lib.hid hB4
  clear n0 n1 n2 n3 n4 n5 n6 hn3 hmg b4 hB4 HB3 o4
  go_wp2_with fail
  refine hfi.mono ?_
  rintro e w5 ⟨v5, rfl, o5, b5⟩
  have hal : Below w5.heap.size w5 (w5.alloc (.cells #[.int .i64 0, .bool false, v5, .int .i64 1] 60)) := (Below.refl _ w5).alloc (Nat.le_refl _) _
  have hk5 : Blk4 60 w5.heap.size (w5.alloc (.cells #[.int .i64 0, .bool false, v5, .int .i64 1] 60)) (.int .i64 0) (.bool false) v5 (.int .i64 1) := heap_alloc_new w5 _
  have hB5 := below_trans (below_trans HB4.out b5) hal
  have hkk := hk.below hB5 hsz
  have o6 := o5.below hal
  obtain ⟨d0, d1, d2, d3⟩ := hk5.cells
  obtain ⟨k0, k1, k2, k3⟩ := hkk.cells
  have g0 := hkk.free 0
  have g1 := hkk.free 1
  have g2 := hkk.free 2
  have g3 := hkk.free 3
  have hle : w.heap.size + 1 < w4.heap.size := Nat.lt_of_lt_of_le hsz HB4.out.size
  have H := Lib.hid (And.intro (hkk.sets (.int .i64 0) (.bool false) v5 (.int .i64 1)) (And.intro (below_sets4 (hb.trans (hB5.mono hb.size)) (Nat.le_succ _) (.int .i64 0) (.bool false) v5 (.int .i64 1)) ((own_sets4 o6 hle (.int .i64 0) (.bool false) v5 (.int .i64 1)).mono (Nat.le_of_lt (Nat.lt_of_succ_lt hle)))))
  obtain ⟨A, n, cp, rfl⟩ := o5.shape
  clear o5 o6 b5 hal hk5 hkk hk hf hb hB5 hle HB4 c0 c1 c2 m1 hfi hG hM
  go_wp2
  refine bodyPost_ret (dec_val3 H.out.1 Tryz.f20 _ _ _ rfl _ rfl) rfl ?_
  exact ⟨_, rfl, H.out.2.2, H.out.2.1⟩
end Go.Proofs.YtkfpjhjmedodlaaGreatDoor

/- parse.Exact at -1.20. -/
set_option maxRecDepth 100000
namespace Go.Proofs.YtkfpjhjmedodlaaGreatDoor
open Go.RowKit Wd
namespace Wd
theorem wd_single {n : Nat} (h0 : n ≠ 0) (h : n < 18446744073709551616) : wd n = [(n : Int)] := by
  rw [wd_pos h0, Nat.div_eq_of_lt h, Nat.mod_eq_of_lt h, wd_zero]
/-- An owned number of one word. -/
theorem Own.single {B : Nat} {w : World} {v : Value} {n : Nat} (ho : Own B w v (wd n)) (h0 : n ≠ 0) (h : n < 18446744073709551616) : ∃ g cap, v = .slice (some ⟨g, 0, none⟩) 1 cap ∧ w.cell? ⟨g, 0, none⟩ = some (.int .u64 n) ∧ B ≤ g ∧ g < w.heap.size := by
  rw [wd_single h0 h] at ho
  obtain ⟨g, cap, rfl, -, -, -⟩ := ho.cases (by simp)
  have hc := ho.cell rfl 0 (by simp)
  have hg := ho.ge
  refine ⟨g, cap, rfl, ?_, hg.1, hg.2⟩
  rw [hc]
  simp [wa]
end Wd
/-- A negative decimal, no error. -/
def PExPost (w : World) (en : Ending) (w' : World) : Prop := ∃ v, en = .returned (.tuple #[decV true v (-2), .int .i64 0]) ∧ Own w.heap.size w' v (wd 120) ∧ Below w.heap.size w w'
set_option maxHeartbeats 8000000 in
theorem pexact_c (w : World) :
    Calls Tryz.prog 21 #[.string ⟨#[45, 49, 46, 50, 48]⟩] w (PExPost w) := by
  have hd := fun w => dec_ok t120 plain120 (by decide) rd120 w
  rw [lgV120] at hd
  unfold numV at hd
  go_enter Tryz.func21, Tryz.ntmps21
  go_wp2_with fail
  refine (hd _).mono ?_
  rintro e w1 ⟨rfl, b1⟩
  clear hd
  have ha0 : Below w.heap.size w (w.alloc (.cells #[.int .i64 0, .bool false, .slice none 0 0, .int .i64 0] 60)) := (Below.refl _ w).alloc (Nat.le_refl _) _
  have hk : Blk4 60 w.heap.size w1 (.int .i64 0) (.bool false) (.slice none 0 0) (.int .i64 0) := (b1.block _ (by simp)).trans (heap_alloc_new w _)
  have hb1 := ha0.trans (b1.mono (by simp))
  have hlt := lt_of_block hk
  clear b1 ha0
  have hal : Below w1.heap.size w1 (w1.alloc (.cells #[.int .i64 0, .bool true, .string ⟨#[49, 50, 48]⟩, .int .i64 2, .int .i64 0, .int .i64 5, .bool false] 92)) := (Below.refl _ w1).alloc (Nat.le_refl _) _
  have hn : NumB w1.heap.size (w1.alloc (.cells #[.int .i64 0, .bool true, .string ⟨#[49, 50, 48]⟩, .int .i64 2, .int .i64 0, .int .i64 5, .bool false] 92)) 0 true ⟨#[49, 50, 48]⟩ 2 0 5 false := heap_alloc_new w1 _
  obtain ⟨n0, n1, n2, n3, n4, n5, n6⟩ := hn.cells
  have hsp := special_any true ⟨#[49, 50, 48]⟩ 2 0 5 false (w1.alloc (.cells #[.int .i64 0, .bool true, .string ⟨#[49, 50, 48]⟩, .int .i64 2, .int .i64 0, .int .i64 5, .bool false] 92))
  unfold numV at hsp
  have HB2 := Lib.hid hal
  clear hal
  go_wp2_with fail
  refine hsp.mono ?_
  rintro e w3 ⟨rfl, b3⟩
  have hal : Below w3.heap.size w3 (w3.alloc (.cells #[.int .i64 0, .bool false, .slice none 0 0, .int .i64 0] 60)) := (Below.refl _ w3).alloc (Nat.le_refl _) _
  have hB3 := below_trans b3 hal
  have hn3 := hn.only (Only.of (b := (World.heap (w1.alloc (.cells #[.int .i64 0, .bool true, .string ⟨#[49, 50, 48]⟩, .int .i64 2, .int .i64 0, .int .i64 5, .bool false] 92))).size) hB3) (Nat.ne_of_lt (lt_of_block hn))
  have HB3 := Lib.hid (below_trans HB2.out hB3)
  clear n0 n1 n2 n3 n4 n5 n6 hn hsp b3 hal hB3 HB2
  obtain ⟨n0, n1, n2, n3, n4, n5, n6⟩ := hn3.cells
  have hmg := mag_any true ⟨#[49, 50, 48]⟩ 2 0 5 false digs120 (by decide) (-2) (by decide) (w3.alloc (.cells #[.int .i64 0, .bool false, .slice none 0 0, .int .i64 0] 60))
  rw [val120] at hmg
  unfold numV at hmg
  go_wp2_with fail
  refine hmg.mono ?_
  rintro e w4 ⟨v4, rfl, o4, b4⟩
  have m1 := cell_keep b4 n1
  have hB4 := below_trans HB3.out b4
  obtain ⟨g, cp, rfl, hgc, hg1, hg2⟩ := o4.single (by decide) (by decide)
  have hkk := hk.below hB4 hlt
  obtain ⟨k0, k1, k2, k3⟩ := hkk.cells
  have g0 := hkk.free 0
  have g1 := hkk.free 1
  have g2 := hkk.free 2
  have g3 := hkk.free 3
  have hsz : w1.heap.size ≤ (w3.alloc (.cells #[.int .i64 0, .bool false, .slice none 0 0, .int .i64 0] 60)).heap.size := HB3.out.size
  have H := Lib.hid (And.intro (hkk.sets (.int .i64 0) (.bool true) (.slice (some ⟨g, 0, none⟩) 1 cp) (.int .i64 (-2))) (And.intro (below_sets4 (hb1.trans (hB4.mono (Nat.le_of_lt hlt))) (Nat.le_refl _) (.int .i64 0) (.bool true) (.slice (some ⟨g, 0, none⟩) 1 cp) (.int .i64 (-2))) ((own_sets4 o4 (Nat.lt_of_lt_of_le hlt hsz) (.int .i64 0) (.bool true) (.slice (some ⟨g, 0, none⟩) 1 cp) (.int .i64 (-2))).mono (Nat.le_of_lt (Nat.lt_of_lt_of_le hlt hsz)))))
  clear o4 b4 hkk hk hB4 hmg hb1 hlt hsz hgc hg1 hg2 n0 n1 n2 n3 n4 n5 n6 hn3 HB3
  go_wp2
  refine bodyPost_ret (dec_val2 H.out.1 Tryz.f21 _ _ rfl _ rfl) rfl ?_
  exact ⟨_, rfl, H.out.2.2, H.out.2.1⟩
end Go.Proofs.YtkfpjhjmedodlaaGreatDoor

/- reckonerlaw24.awake. -/
set_option maxRecDepth 100000
namespace Go.Proofs.YtkfpjhjmedodlaaGreatDoor
open Go.RowKit Wd
/-- A float, the flag 1, no error. -/
def PFloPost0 (w : World) (en : Ending) (w' : World) : Prop := ∃ v, en = .returned (.tuple #[floV false (-13) v, .int .i64 1, .int .i64 0]) ∧ Own w.heap.size w' v (wd 819) ∧ Below w.heap.size w w'
set_option maxHeartbeats 8000000 in
theorem awake0 (hP : ∀ w, Glob w → More w → Calls Tryz.prog 15 #[f511, .int .i64 0, .string ⟨#[48, 46, 49]⟩] w (PFloPost0 w)) (w : World) (hG : Glob w) (hM : More w) :
    Calls Tryz.prog 7 #[] w (ValPost (.bool true) w) := by
  go_enter Tryz.func7, Tryz.ntmps7
  have ha0 : Below w.heap.size w (w.alloc (.cells #[.int .i64 5, .int .i64 11] 42)) := (Below.refl _ w).alloc (Nat.le_refl _) _
  have hG0 := hG.below ha0
  have hM0 := hM.below ha0
  go_wp2_with fail
  refine (hP _ hG0 hM0).mono ?_
  rintro e w1 ⟨v1, rfl, o1, b1⟩
  obtain ⟨g1, cp1, rfl, c1, l1, u1⟩ := o1.single (by decide) (by decide)
  have hB1 := ha0.trans (b1.mono ha0.size)
  clear o1 ha0 hG0 hM0 hP
  have ha1 : Below w1.heap.size w1 (w1.alloc (.cells #[.int .i64 1, .bool false, .int .i64 (-13), .slice (some ⟨g1, 0, none⟩) 1 cp1] 48)) := (Below.refl _ w1).alloc (Nat.le_refl _) _
  have hk1 : Blk4 48 w1.heap.size (w1.alloc (.cells #[.int .i64 1, .bool false, .int .i64 (-13), .slice (some ⟨g1, 0, none⟩) 1 cp1] 48)) (.int .i64 1) (.bool false) (.int .i64 (-13)) (.slice (some ⟨g1, 0, none⟩) 1 cp1) := heap_alloc_new w1 _
  have hB1a := below_trans hB1 ha1
  have d1 := cell_keep ha1 c1
  have hp := pdec_b (w1.alloc (.cells #[.int .i64 1, .bool false, .int .i64 (-13), .slice (some ⟨g1, 0, none⟩) 1 cp1] 48)) (hG.below hB1a) (hM.below hB1a)
  go_wp2_with fail
  refine hp.mono ?_
  rintro e w2 ⟨v2, rfl, o2, b2⟩
  obtain ⟨g2, cp2, rfl, c2, l2, u2⟩ := o2.single (by decide) (by decide)
  have hB2 := below_trans hB1a b2
  have hk2 := hk1.below b2 (by simp)
  have d2 := cell_keep b2 d1
  clear o2 hp hk1 ha1 d1 c1
  have ha2 : Below w2.heap.size w2 (w2.alloc (.cells #[.int .i64 0, .bool false, .slice (some ⟨g2, 0, none⟩) 1 cp2, .int .i64 1] 60)) := (Below.refl _ w2).alloc (Nat.le_refl _) _
  have hd2 : Blk4 60 w2.heap.size (w2.alloc (.cells #[.int .i64 0, .bool false, .slice (some ⟨g2, 0, none⟩) 1 cp2, .int .i64 1] 60)) (.int .i64 0) (.bool false) (.slice (some ⟨g2, 0, none⟩) 1 cp2) (.int .i64 1) := heap_alloc_new w2 _
  have hB2a := below_trans hB2 ha2
  have e1 := cell_keep ha2 d2
  have e2 := cell_keep ha2 c2
  have hk3 := hk2.below ha2 (lt_of_block hk2)
  have hp := pexact_c (w2.alloc (.cells #[.int .i64 0, .bool false, .slice (some ⟨g2, 0, none⟩) 1 cp2, .int .i64 1] 60))
  go_wp2_with fail
  refine hp.mono ?_
  rintro e w3 ⟨v3, rfl, o3, b3⟩
  obtain ⟨g3, cp3, rfl, c3, l3, u3⟩ := o3.single (by decide) (by decide)
  have hB3 := below_trans hB2a b3
  have ha3 : Below w3.heap.size w3 (w3.alloc (.cells #[.int .i64 0, .bool true, .slice (some ⟨g3, 0, none⟩) 1 cp3, .int .i64 (-2)] 60)) := (Below.refl _ w3).alloc (Nat.le_refl _) _
  have hd3 : Blk4 60 w3.heap.size (w3.alloc (.cells #[.int .i64 0, .bool true, .slice (some ⟨g3, 0, none⟩) 1 cp3, .int .i64 (-2)] 60)) (.int .i64 0) (.bool true) (.slice (some ⟨g3, 0, none⟩) 1 cp3) (.int .i64 (-2)) := heap_alloc_new w3 _
  have hB3a := below_trans hB3 ha3
  have b3a := below_trans b3 ha3
  obtain ⟨k0, k1, k2, k3⟩ := (hk3.below b3a (lt_of_block hk3)).cells
  obtain ⟨m0, m1, m2, m3⟩ := (hd2.below b3a (lt_of_block hd2)).cells
  obtain ⟨n0, n1, n2, n3⟩ := hd3.cells
  have q1 := cell_keep b3a e1
  have q2 := cell_keep b3a e2
  have q3 := cell_keep ha3 c3
  have HB := Lib.hid hB3a
  clear o3 hp hk2 hk3 hd2 hd3 ha2 ha3 b1 b2 b3 b3a hB1 hB1a hB2 hB2a hB3 hB3a e1 e2 d2 c2 c3 hG hM l1 l2 l3 u1 u2 u3
  go_wp2_with fail
  refine (prefix_any t1e plain1e (by decide) _).mono ?_
  rintro e w4 ⟨rfl, b4⟩
  rw [lgN1e]
  have HB4 := Lib.hid b4
  clear b4 k0 k1 k2 k3 m0 m1 m2 m3 n0 n1 n2 n3 q1 q2 q3
  go_wp2_with fail
  refine (is_any tnan plainnan (by decide) _).mono ?_
  rintro e w5 ⟨rfl, b5⟩
  rw [rdnan]
  have HB5 := Lib.hid b5
  clear b5
  go_wp2
  go_ret
  exact ⟨rfl, below_trans (below_trans HB.out HB4.out) HB5.out⟩
end Go.Proofs.YtkfpjhjmedodlaaGreatDoor

/- reckonerlaw24.ParseLong. -/
set_option maxRecDepth 100000
namespace Go.Proofs.YtkfpjhjmedodlaaGreatDoor
open Go.RowKit Wd
set_option maxHeartbeats 1000000 in
theorem ffits (w : World) : Calls Tryz.prog 22 #[zeroFlo, .int .i64 0, .int .i64 2, zeroFlo, .int .i64 0, .int .i64 2] w (ValPost (.bool true) w) := by
  go_enter Tryz.func22, Tryz.ntmps22
  go_wp2_with fail
  refine (fnone _).mono ?_
  rintro e w1 ⟨rfl, hb⟩
  have HB := Lib.hid hb
  clear hb
  go_wp2
  go_ret
  exact ⟨rfl, (((Below.refl _ w).alloc (Nat.le_refl _) _).alloc (by simp) _).trans (HB.out.mono (by simp; omega))⟩
set_option maxHeartbeats 1000000 in
theorem dfits (w : World) : Calls Tryz.prog 23 #[zeroDec, .int .i64 0, .int .i64 2, zeroDec, .int .i64 0, .int .i64 2] w (ValPost (.bool true) w) := by
  go_enter Tryz.func23, Tryz.ntmps23
  go_wp2_with fail
  refine (dnone _).mono ?_
  rintro e w1 ⟨rfl, hb⟩
  have HB := Lib.hid hb
  clear hb
  go_wp2
  go_ret
  exact ⟨rfl, (((Below.refl _ w).alloc (Nat.le_refl _) _).alloc (by simp) _).trans (HB.out.mono (by simp; omega))⟩
set_option maxHeartbeats 8000000 in
theorem parseLong0 (hA : ∀ w, Glob w → More w → Calls Tryz.prog 7 #[] w (ValPost (.bool true) w)) (w : World) (hG : Glob w) (hM : More w) (fe fp md a b c : Int) (n : Nat) (hn : n < 256) :
    Calls Tryz.prog 5 #[.agg #[.int .i64 fe, .int .i64 fp], .int .i64 md, .agg #[.int .i64 a, .int .i64 b, .int .i64 c], .int .u8 n] w (ValPost (.bool true) w) := by
  obtain ⟨m, hm⟩ : ∃ m, 65537 + n = m := ⟨_, rfl⟩
  have hwm : IntKind.i64.wrap (65537 + (n : Int)) = (m : Int) := by rw [IntKind.wrap_i64]; omega
  have hm1 : 65536 < (zs m).size := by rw [zs_size]; omega
  have hm2 : (zs m).size ≤ 1000000 := by rw [zs_size]; omega
  have hm3 : 2 ≤ m := by omega
  have hR := fun w => Tryz.strings_Repeat ⟨#[48]⟩ m w (by omega) (by show 1 * m ≤ _; omega)
  rw [zs_repeat] at hR
  have hF := fun w => pfloat_long (zs m) hm1 fe fp md w
  have hD := fun w => pdec_long (zs m) hm1 a b c w
  have hE := fun w => pexact_long (zs m) hm1 (by omega) w
  have hQ := fun w => prat_long (zs m) hm1 w
  have hI := fun w => is_any (zs m) (zs_plain hm3) hm2 w
  have hP := fun w => prefix_any (zs m) (zs_plain hm3) hm2 w
  rw [zs_ok hm3] at hI
  rw [zs_lgN hm3] at hP
  have hzs := zs_size m
  generalize zs m = z at *
  clear hm hm1 hm2
  go_enter Tryz.func5, Tryz.ntmps5
  go_wp2_with fail
  generalize hW : World.alloc _ _ = W
  have hf : W.heap[w.heap.size]? = some (.cells #[.int .i64 fe, .int .i64 fp] 42 (0, 0)) := by
    rw [← hW]
    show ((w.heap.push _).push _)[w.heap.size]? = _
    rw [Array.getElem?_push, if_neg (by simp), Array.getElem?_push, if_pos (by simp)]
  have hk : W.heap[w.heap.size + 1]? = some (.cells #[.int .i64 a, .int .i64 b, .int .i64 c] 56 (0, 0)) := by
    rw [← hW]
    show ((w.heap.push _).push _)[w.heap.size + 1]? = _
    rw [Array.getElem?_push, if_pos (by simp)]
  have hb : Below w.heap.size w W := by
    rw [← hW]
    exact ((Below.refl _ w).alloc (Nat.le_refl _) _).alloc (by simp) _
  have hsz : w.heap.size + 1 < W.heap.size := lt_of_block hk
  clear hW
  have hG := hG.below hb
  have hM := hM.below hb
  refine (hR _).mono ?_
  rintro e w1 ⟨rfl, b1⟩
  have c0 : w1.cell? ⟨w.heap.size, 0, none⟩ = some (.int .i64 fe) := Lib.cell_of_heap ((b1.block _ (by omega)).trans hf) 0
  have c1 : w1.cell? ⟨w.heap.size, 1, none⟩ = some (.int .i64 fp) := Lib.cell_of_heap ((b1.block _ (by omega)).trans hf) 1
  have HB1 := Lib.hid b1
  clear b1 hR
  go_wp2_with fail
  refine (hF _).mono ?_
  rintro e w2 ⟨rfl, b2⟩
  have a2 : Below w2.heap.size w2 (w2.alloc (.cells #[.int .i64 0, .bool false, .int .i64 0, .slice none 0 0] 48)) := (Below.refl _ w2).alloc (Nat.le_refl _) _
  have f2 : Blk4 48 w2.heap.size (w2.alloc (.cells #[.int .i64 0, .bool false, .int .i64 0, .slice none 0 0] 48)) (.int .i64 0) (.bool false) (.int .i64 0) (.slice none 0 0) := heap_alloc_new w2 _
  have hB2 := below_trans (below_trans HB1.out b2) a2
  have c0 := Lib.cell_of_heap ((hB2.block (w.heap.size + 1) (by omega)).trans hk) 0
  have c1 := Lib.cell_of_heap ((hB2.block (w.heap.size + 1) (by omega)).trans hk) 1
  have c2 := Lib.cell_of_heap ((hB2.block (w.heap.size + 1) (by omega)).trans hk) 2
  have HB2 := Lib.hid (And.intro hB2 f2)
  clear hB2 b2 a2 f2 hF HB1
  go_wp2_with fail
  refine (hD _).mono ?_
  rintro e w3 ⟨rfl, b3⟩
  have a3 : Below w3.heap.size w3 (w3.alloc (.cells #[.int .i64 0, .bool false, .slice none 0 0, .int .i64 0] 60)) := (Below.refl _ w3).alloc (Nat.le_refl _) _
  have f3 : Blk4 60 w3.heap.size (w3.alloc (.cells #[.int .i64 0, .bool false, .slice none 0 0, .int .i64 0] 60)) (.int .i64 0) (.bool false) (.slice none 0 0) (.int .i64 0) := heap_alloc_new w3 _
  have b3a := below_trans b3 a3
  have hB3 := below_trans HB2.out.1 b3a
  have e2 := HB2.out.2.below b3a (lt_of_block HB2.out.2)
  have HB3 := Lib.hid (And.intro hB3 (And.intro e2 f3))
  clear hB3 b3 a3 b3a e2 f3 hD HB2 c0 c1 c2
  go_wp2_with fail
  refine (hE _).mono ?_
  rintro e w4 ⟨rfl, b4⟩
  have a4 : Below w4.heap.size w4 (w4.alloc (.cells #[.int .i64 0, .bool false, .slice none 0 0, .int .i64 0] 60)) := (Below.refl _ w4).alloc (Nat.le_refl _) _
  have f4 : Blk4 60 w4.heap.size (w4.alloc (.cells #[.int .i64 0, .bool false, .slice none 0 0, .int .i64 0] 60)) (.int .i64 0) (.bool false) (.slice none 0 0) (.int .i64 0) := heap_alloc_new w4 _
  have b4a := below_trans b4 a4
  have hB4 := below_trans HB3.out.1 b4a
  have e2 := HB3.out.2.1.below b4a (lt_of_block HB3.out.2.1)
  have e3 := HB3.out.2.2.below b4a (lt_of_block HB3.out.2.2)
  have HB4 := Lib.hid (And.intro hB4 (And.intro e2 (And.intro e3 f4)))
  clear hB4 b4 a4 b4a e2 e3 f4 hE HB3
  go_wp2_with fail
  refine (hQ _).mono ?_
  rintro e w5 ⟨rfl, b5⟩
  have a5 : Below w5.heap.size w5 (w5.alloc (.cells #[.bool false, .slice none 0 0, .slice none 0 0] 32)) := (Below.refl _ w5).alloc (Nat.le_refl _) _
  have f5 : Blk3 32 w5.heap.size (w5.alloc (.cells #[.bool false, .slice none 0 0, .slice none 0 0] 32)) (.bool false) (.slice none 0 0) (.slice none 0 0) := heap_alloc_new w5 _
  have b5a := below_trans b5 a5
  have hB5 := below_trans HB4.out.1 b5a
  have e2 := HB4.out.2.1.below b5a (lt_of_block HB4.out.2.1)
  have e3 := HB4.out.2.2.1.below b5a (lt_of_block HB4.out.2.2.1)
  have e4 := HB4.out.2.2.2.below b5a (lt_of_block HB4.out.2.2.2)
  have HB5 := Lib.hid (And.intro hB5 (And.intro e2 (And.intro e3 (And.intro e4 f5))))
  obtain ⟨i0, i1, i2, i3⟩ := e2.cells
  clear hB5 b5 a5 b5a e2 e3 e4 f5 hQ HB4 hf hk
  go_wp2_with fail
  refine (ffits _).mono ?_
  rintro e w6 ⟨rfl, b6⟩
  have hB6 := below_trans HB5.out.1 b6
  have e3 := HB5.out.2.2.1.below b6 (lt_of_block HB5.out.2.2.1)
  have e4 := HB5.out.2.2.2.1.below b6 (lt_of_block HB5.out.2.2.2.1)
  have e5 := HB5.out.2.2.2.2.below b6 (lt_of_block HB5.out.2.2.2.2)
  have HB6 := Lib.hid (And.intro hB6 (And.intro e3 (And.intro e4 e5)))
  obtain ⟨i0, i1, i2, i3⟩ := e3.cells
  clear hB6 e3 e4 e5 HB5 b6
  go_wp2_with fail
  refine (dfits _).mono ?_
  rintro e w7 ⟨rfl, b7⟩
  have hB7 := below_trans HB6.out.1 b7
  have e4 := HB6.out.2.2.1.below b7 (lt_of_block HB6.out.2.2.1)
  have e5 := HB6.out.2.2.2.below b7 (lt_of_block HB6.out.2.2.2)
  have HB7 := Lib.hid (And.intro hB7 (And.intro e4 e5))
  clear i0 i1 i2 i3
  obtain ⟨i0, i1, i2, i3⟩ := e4.cells
  clear hB7 e4 e5 HB6 b7
  go_wp2_with fail
  refine (dfits _).mono ?_
  rintro e w8 ⟨rfl, b8⟩
  have hB8 := below_trans HB7.out.1 b8
  have e5 := HB7.out.2.2.below b8 (lt_of_block HB7.out.2.2)
  have HB8 := Lib.hid hB8
  clear i0 i1 i2 i3
  obtain ⟨i0, i1, i2⟩ := e5.cells
  clear hB8 e5 HB7 b8
  go_wp2_with fail
  refine (norat _).mono ?_
  rintro e w9 ⟨rfl, b9⟩
  have HB9 := Lib.hid (below_trans HB8.out b9)
  clear i0 i1 i2 b9 HB8
  go_wp2_with fail
  refine (hI _).mono ?_
  rintro e w10 ⟨rfl, b10⟩
  have HB10 := Lib.hid (below_trans HB9.out b10)
  clear b10 HB9 hI
  go_wp2_with fail
  refine (hP _).mono ?_
  rintro e w11 ⟨rfl, b11⟩
  have hB11 := below_trans HB10.out b11
  have hA := hA _ (hG.below hB11) (hM.below hB11)
  have HB11 := Lib.hid hB11
  clear b11 HB10 hP hB11
  have hzi : (z.size : Int) = (m : Int) := by omega
  go_wp2_with fail
  refine hA.mono ?_
  rintro e w12 ⟨rfl, b12⟩
  have HB12 := Lib.hid (below_trans HB11.out b12)
  clear b12 HB11 hA
  go_wp2
  go_ret
  exact ⟨rfl, hb.trans (HB12.out.mono hb.size)⟩
end Go.Proofs.YtkfpjhjmedodlaaGreatDoor
