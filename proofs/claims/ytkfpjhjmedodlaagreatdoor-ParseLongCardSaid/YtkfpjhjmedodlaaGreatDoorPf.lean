/- What wide.less and wide.DivMod give, for rows of words that lie whole in memory. -/
import Derived.Test.YtkfpjhjmedodlaaGreatDoorPe
import Derived.Test.YtkfpjhjmedodlaaGreatDoorPb
import Derived.Test.YtkfpjhjmedodlaaGreatDoorPc
/- wide.less: the plain laws of its two loops. -/
namespace Go.Proofs.YtkfpjhjmedodlaaGreatDoor
open Go.RowKit Wd
/-- A row in the middle of a longer one. -/
def mid (L zs : List Int) (j k : Nat) : List Int := L.take j ++ zs ++ L.drop (j + k)
theorem mid_len {L zs : List Int} {j k : Nat} (h : zs.length = k) (hl : j + k ≤ L.length) : (mid L zs j k).length = L.length := by
  unfold mid
  simp [h]
  omega
theorem mid_zero (L : List Int) (j : Nat) : mid L [] j 0 = L := by unfold mid; simp
theorem mid_at {L zs : List Int} {j k : Nat} (h : zs.length = k) (hl : j + k < L.length) : wa (mid L zs j k) (j + k) = wa L (j + k) := by
  unfold mid wa
  rw [List.getElem?_append_right (by simp [h]; omega)]
  simp [h, List.getElem?_drop]
  congr 2
  omega
theorem mid_set {L zs : List Int} {j k : Nat} (v : Int) (h : zs.length = k) (hl : j + k < L.length) : (mid L zs j k).set (j + k) v = mid L (zs ++ [v]) j (k + 1) := by
  unfold mid
  rw [List.set_append_right _ _ (by simp [h]; omega)]
  have e : j + k - (L.take j ++ zs).length = 0 := by simp [h]; omega
  rw [e, List.drop_eq_getElem_cons hl]
  simp [Nat.add_assoc]
theorem mid_wf {L zs : List Int} {j k : Nat} (hL : Wf L) (hz : Wf zs) : Wf (mid L zs j k) := wf_append.2 ⟨wf_append.2 ⟨wf_take hL _, hz⟩, wf_drop hL _⟩
theorem mid_mid {L zs ys : List Int} {j k i : Nat} (h : zs.length = k) (hj : j ≤ L.length) (hi : i ≤ k) (hy : ys.length = i) : mid (mid L zs j k) ys j i = mid L (ys ++ zs.drop i) j k := by
  unfold mid
  have e1 : (L.take j ++ zs ++ L.drop (j + k)).take j = L.take j := by
    rw [List.append_assoc, List.take_append_of_le_length (by simp; omega), List.take_take, Nat.min_self]
  have e2 : (L.take j ++ zs ++ L.drop (j + k)).drop (j + i) = zs.drop i ++ L.drop (j + k) := by
    rw [List.append_assoc, List.drop_append, List.drop_of_length_le (by simp; omega), List.nil_append]
    simp only [List.length_take, Nat.min_eq_left hj, Nat.add_sub_cancel_left]
    rw [List.drop_append_of_le_length (by omega)]
  rw [e1, e2]
  simp
theorem mid_seg {L zs : List Int} {j k : Nat} (h : zs.length = k) (hj : j ≤ L.length) : ((mid L zs j k).drop j).take k = zs := by
  unfold mid
  rw [List.append_assoc, List.drop_append, List.drop_of_length_le (by simp; omega)]
  simp [Nat.min_eq_left hj, h]

/-- The first loop: q times V is taken away. -/
structure LsRel (S V zs : List Int) (q : Int) (k : Nat) (c bo : Int) : Prop where
  len : zs.length = k
  wf : Wf zs
  cb : 0 ≤ c ∧ c < B
  bb : 0 ≤ bo ∧ bo ≤ 1
  val : val zs + q * val (V.take k) = val (S.take k) + pw k * (bo + c)
theorem LsRel.zero (S V : List Int) (q : Int) : LsRel S V [] q 0 0 0 := ⟨rfl, wf_nil, ⟨Int.le_refl _, B_pos⟩, ⟨Int.le_refl _, by decide⟩, by simp [val_nil]⟩
def lsLo (q v c : Int) : Int := alo (mlo q v) c 0
def lsHi (q v c : Int) : Int := IntKind.u64.wrap (mhi q v + ahi (mlo q v) c 0)
theorem ls_law {q v c : Int} (hq : 0 ≤ q ∧ q < B) (hv : 0 ≤ v ∧ v < B) (hc : 0 ≤ c ∧ c < B) : q * v + c = lsLo q v c + B * lsHi q v c ∧ (0 ≤ lsLo q v c ∧ lsLo q v c < B) ∧ 0 ≤ lsHi q v c ∧ lsHi q v c < B := by
  have h1 := mul_bound hq hv
  obtain ⟨e1, a1, b1, b2⟩ := mul_law hq hv
  obtain ⟨e2, a2, c1, c2⟩ := add_law a1 hc ⟨Int.le_refl 0, by decide⟩
  have w1 : lsHi q v c = mhi q v + ahi (mlo q v) c 0 := wrap_u64 (by omega) (by omega)
  refine ⟨?_, a2, by rw [w1]; omega, by rw [w1]; omega⟩
  rw [w1]
  unfold lsLo
  rw [Int.mul_add]
  omega
theorem LsRel.step {S V zs : List Int} {q c bo : Int} {k : Nat} (h : LsRel S V zs q k c bo) (hS : Wf S) (hV : Wf V) (hq : 0 ≤ q ∧ q < B) :
    LsRel S V (zs ++ [slo (wa S k) (lsLo q (wa V k) c) bo]) q (k + 1) (lsHi q (wa V k) c) (shi (wa S k) (lsLo q (wa V k) c) bo) := by
  obtain ⟨e1, a1, b1⟩ := ls_law hq (wf_at hV k) h.cb
  obtain ⟨e2, a2, b2⟩ := sub_law (wf_at hS k) a1 h.bb
  refine ⟨by simp [h.len], wf_append.2 ⟨h.wf, wf_one a2.1 a2.2⟩, b1, b2, ?_⟩
  have hv := h.val
  rw [val_snoc, h.len, val_take_succ', val_take_succ', pw_succ]
  grind
/-- Behind the first loop and the last word. -/
theorem LsRel.last {S V zs : List Int} {q c bo : Int} (h : LsRel S V zs q V.length c bo) (hS : Wf S) (hl : S.length = V.length + 1) :
    Wf (zs ++ [slo (wa S V.length) c bo]) ∧ (zs ++ [slo (wa S V.length) c bo]).length = V.length + 1 ∧ 0 ≤ shi (wa S V.length) c bo ∧ shi (wa S V.length) c bo ≤ 1 ∧
      Wd.val (zs ++ [slo (wa S V.length) c bo]) + q * Wd.val V = Wd.val S + pw (V.length + 1) * shi (wa S V.length) c bo := by
  obtain ⟨e2, a2, b2, b3⟩ := sub_law (wf_at hS V.length) h.cb h.bb
  refine ⟨wf_append.2 ⟨h.wf, wf_one a2.1 a2.2⟩, by simp [h.len], b2, b3, ?_⟩
  have hv := h.val
  have hs := val_take_succ' S V.length
  rw [List.take_of_length_le (Nat.le_of_eq hl)] at hs
  rw [List.take_of_length_le (Nat.le_refl _)] at hv
  rw [val_snoc, h.len, hs, pw_succ]
  grind
/-- Whether it was once too often. -/
theorem less_flag {Z S qV p : Int} {bo : Int} (hZ : 0 ≤ Z) (hZ2 : Z < p) (hb : 0 ≤ bo ∧ bo ≤ 1) (h : Z + qV = S + p * bo) : (bo = 0 ∧ qV ≤ S ∧ Z = S - qV) ∨ (bo = 1 ∧ S < qV ∧ Z = S - qV + p) := by
  have : bo = 0 ∨ bo = 1 := by omega
  rcases this with rfl | rfl
  · left; omega
  · right; omega
/-- The second loop: V is put back. -/
theorem AddRel.put {S V zs : List Int} {c : Int} (h : AddRel S V zs V.length c) (hS : Wf S) (hl : S.length = V.length + 1) {T : Int} (hT : 0 ≤ T) (he : Wd.val S + Wd.val V = T + pw (V.length + 1)) :
    Wf (zs ++ [IntKind.u64.wrap (wa S V.length + c)]) ∧ Wd.val (zs ++ [IntKind.u64.wrap (wa S V.length + c)]) = T := by
  have hv := h.val
  have hs := val_take_succ' S V.length
  rw [List.take_of_length_le (Nat.le_of_eq hl)] at hs
  rw [List.take_of_length_le (Nat.le_refl V.length)] at hv
  have hz := val_lt h.wf
  have hz0 := val_nonneg h.wf
  rw [h.len] at hz
  have hw := wf_at hS V.length
  have hc0 := h.c0
  have hc1 := h.c1
  have hp := pw_pos V.length
  rw [pw_succ] at he
  have hge : B ≤ wa S V.length + c := by
    rcases Int.lt_or_le (wa S V.length + c) B with h3 | h3
    · exfalso
      have h4 : pw V.length * (wa S V.length + c + 1) ≤ pw V.length * B := Int.mul_le_mul_of_nonneg_left (by omega) (Int.le_of_lt hp)
      grind
    · exact h3
  have hwr : IntKind.u64.wrap (wa S V.length + c) = wa S V.length + c - B := by
    rw [IntKind.wrap_u64]
    simp only [B_eq] at *
    omega
  rw [hwr]
  refine ⟨wf_append.2 ⟨h.wf, wf_one (by omega) (by omega)⟩, ?_⟩
  rw [val_snoc, h.len]
  grind
end Go.Proofs.YtkfpjhjmedodlaaGreatDoor

/- wide.less: the walk. -/
set_option maxRecDepth 100000
namespace Go.Proofs.YtkfpjhjmedodlaaGreatDoor
open Go.RowKit Wd
theorem grownBy_trans {a b c : World} {r : Option Nat} (h : a.grownBy b r) (k : b.grownBy c r) : a.grownBy c r :=
  ⟨k.os.trans h.os, k.tape.trans h.tape, k.output.trans h.output, Nat.le_trans h.size k.size, fun i hi hr => (k.block i (Nat.lt_of_lt_of_le hi h.size) hr).trans (h.block i hi hr)⟩

def LessPost (B0 g N cap j : Nat) (L V : List Int) (q : Int) (W : World) (e : Ending) (w' : World) : Prop :=
  ∃ (zs : List Int) (f : Bool), e = .returned (.bool f) ∧ Own B0 w' (.slice (some ⟨g, 0, none⟩) N cap) (mid L zs j (V.length + 1)) ∧ W.grownBy w' (some g) ∧ zs.length = V.length + 1 ∧ Wf zs ∧
    ((f = false ∧ q * val V ≤ val ((L.drop j).take (V.length + 1)) ∧ val zs = val ((L.drop j).take (V.length + 1)) - q * val V) ∨
     (f = true ∧ val ((L.drop j).take (V.length + 1)) < q * val V ∧ val zs = val ((L.drop j).take (V.length + 1)) - q * val V + val V))

set_option maxHeartbeats 4000000 in
theorem less_any {B0 g N cap j cu bv ov cv : Nat} {L V : List Int} {q : Int} {W : World} (hL : Own B0 W (.slice (some ⟨g, 0, none⟩) N cap) L) (hLn : L.length = N) (hLw : Wf L) (hj : j + V.length + 1 ≤ N) (hN : N ≤ 100000000)
    (hV : ∀ k, k < V.length → W.cell? ⟨bv, ov + k, none⟩ = some (.int .u64 (wa V k))) (hVw : Wf V) (hne : bv ≠ g) (hq : 0 ≤ q ∧ q < B) (hone : q * val V ≤ val ((L.drop j).take (V.length + 1)) + val V) :
    Calls Tryz.prog 167 #[.slice (some ⟨g, j, none⟩) (V.length + 1) cu, .slice (some ⟨bv, ov, none⟩) V.length cv, .int .u64 q] W (LessPost B0 g N cap j L V q W) := by
  have HS : Hid (Wf ((L.drop j).take (V.length + 1)) ∧ ((L.drop j).take (V.length + 1)).length = V.length + 1) := ⟨wf_take (wf_drop hLw j) _, by simp; omega⟩
  have HSw : Hid (∀ k, k < V.length + 1 → wa ((L.drop j).take (V.length + 1)) k = wa L (j + k)) := fun k hk => by
    unfold wa
    rw [List.getElem?_take, if_pos hk, List.getElem?_drop]
  have HP : Hid (∀ zs f w', Own B0 w' (.slice (some ⟨g, 0, none⟩) N cap) (mid L zs j (V.length + 1)) → W.grownBy w' (some g) → zs.length = V.length + 1 → Wf zs →
      ((f = false ∧ q * val V ≤ val ((L.drop j).take (V.length + 1)) ∧ val zs = val ((L.drop j).take (V.length + 1)) - q * val V) ∨
       (f = true ∧ val ((L.drop j).take (V.length + 1)) < q * val V ∧ val zs = val ((L.drop j).take (V.length + 1)) - q * val V + val V)) → LessPost B0 g N cap j L V q W (.returned (.bool f)) w') :=
    fun zs f w' h1 h2 h3 h4 h5 => ⟨zs, f, rfl, h1, h2, h3, h4, h5⟩
  have HL := Lib.hid (And.intro hL (And.intro hLn hLw))
  have HO := Lib.hid hone
  generalize (L.drop j).take (V.length + 1) = S at HS HSw HP HO
  clear hL hLw hone
  have hNe : some bv ≠ some g := fun h => hne (Option.some.inj h)
  go_enter Tryz.func167, Tryz.ntmps167
  go_wp2
  go_loopw [19, 7, 8] (fun i c b wr => ∃ (k : Nat) (cc bo : Int) (zs : List Int), k ≤ V.length ∧ i = .int .i64 k ∧ c = .int .u64 cc ∧ b = .int .u64 bo ∧ Own B0 wr (.slice (some ⟨g, 0, none⟩) N cap) (mid L zs j k) ∧ LsRel S V zs q k cc bo ∧ W.grownBy wr (some g)) (fun i _ _ _ => V.length - (intOf i).toNat)
  case atStart => exact ⟨0, 0, 0, [], by omega, rfl, rfl, rfl, by rw [mid_zero]; exact HL.out.1, LsRel.zero _ _ _, World.grownBy.refl _ _⟩
  case round =>
    obtain ⟨k, cc, bo, zs, hk, rfl, rfl, rfl, ho, hr, hb⟩ := hrel
    have hml := mid_len (L := L) (j := j) hr.len (by omega)
    by_cases hkx : k < V.length
    · have hvk := hb.cell (hV k hkx) hNe
      have hgk := ho.cell (by omega) (j + k) (by omega)
      rw [mid_at hr.len (by omega), ← HSw.out k (by omega)] at hgk
      have hgf := ho.frozen (by omega) (j + k)
      have hsb := wf_at HS.out.1 k
      have hvb := wf_at hVw k
      have hcb := hr.cb
      have hbb := hr.bb
      obtain ⟨-, m1, -⟩ := mul_law hq hvb
      obtain ⟨-, m2, -⟩ := ls_law hq hvb hcb
      change 0 ≤ alo (mlo q (wa V k)) cc 0 ∧ alo (mlo q (wa V k)) cc 0 < B at m2
      have HH := Lib.hid (And.intro ho (And.intro hr (And.intro hb hml)))
      clear ho hr hb hml hV
      go_wp2_with (first | (refine (mul64 hq hvb _).mono ?_; rintro e w' ⟨rfl, rfl⟩) | rw [add64 m1 hcb ⟨Int.le_refl 0, by decide⟩] | rw [sub64 hsb m2 hbb])
      go_roundw
      case rel =>
        obtain ⟨ho, hr, hb, hml⟩ := HH.out
        have h2 := ho.store (by omega) (j + k) (slo (wa S k) (lsLo q (wa V k) cc) bo)
        rw [mid_set _ hr.len (by omega)] at h2
        exact ⟨k + 1, _, _, _, by omega, by go_num, rfl, rfl, h2.1, hr.step HS.out.1 hVw hq, grownBy_trans hb h2.2⟩
      case measure => simp [intOf]; omega
    · obtain rfl : k = V.length := by omega
      have hgk := ho.cell (by omega) (j + V.length) (by omega)
      rw [mid_at hr.len (by omega), ← HSw.out V.length (by omega)] at hgk
      have hgf := ho.frozen (by omega) (j + V.length)
      have hsb := wf_at HS.out.1 V.length
      have hcb := hr.cb
      have hbb := hr.bb
      obtain ⟨z1, z2, z3, z4, z5⟩ := hr.last HS.out.1 HS.out.2
      have h2 := ho.store (by omega) (j + V.length) (slo (wa S V.length) cc bo)
      rw [mid_set _ hr.len (by omega)] at h2
      have hb2 := grownBy_trans hb h2.2
      have hZ := val_lt z1
      rw [z2] at hZ
      have hfl := less_flag (val_nonneg z1) hZ ⟨z3, z4⟩ z5
      have HZ := Lib.hid (And.intro h2.1 (And.intro hb2 (And.intro z1 (And.intro z2 hfl))))
      clear ho hr hb hml h2 hb2 hZ z1 z2 z3 z4 z5
      rcases hfl with hfl | hfl
      · have t1 : (shi (wa S V.length) cc bo == 0) = true := beq_iff_eq.2 hfl.1
        have HF := Lib.hid hfl
        clear hfl hV
        go_wp2_with (rw [sub64 hsb hcb hbb])
        go_ret
        exact HP.out _ _ _ HZ.out.1 HZ.out.2.1 HZ.out.2.2.2.1 HZ.out.2.2.1 (.inl ⟨rfl, HF.out.2⟩)
      · have t1 : (shi (wa S V.length) cc bo == 0) = false := beq_eq_false_iff_ne.2 (by omega)
        have HF := Lib.hid hfl
        clear hfl
        go_wp2_with (rw [sub64 hsb hcb hbb])
        obtain ⟨h2, hb2, z1, z2, -⟩ := HZ.out
        have HI := Lib.hid (And.intro h2 hb2)
        have HZZ := Lib.hid (And.intro z1 z2)
        have HFv := HF.out.2.2
        generalize zs ++ [slo (wa S V.length) cc bo] = Z at HI HZZ HFv z2
        have HFV := Lib.hid HFv
        have hmlz := mid_len (L := L) (j := j) z2 (by omega)
        have HML := Lib.hid hmlz
        clear h2 hb2 z1 z2 HFv hmlz HZ
        go_loopw [72, 14] (fun i c wr => ∃ (k : Nat) (c2 : Int) (ys : List Int), k ≤ V.length ∧ i = .int .i64 k ∧ c = .int .u64 c2 ∧ Own B0 wr (.slice (some ⟨g, 0, none⟩) N cap) (mid (mid L Z j (V.length + 1)) ys j k) ∧ AddRel Z V ys k c2 ∧ W.grownBy wr (some g)) (fun i _ _ => V.length - (intOf i).toNat)
        case atStart => exact ⟨0, 0, [], by omega, rfl, rfl, by rw [mid_zero]; exact HI.out.1, AddRel.zero _ _, HI.out.2⟩
        case round =>
          obtain ⟨k, c2, ys, hk, rfl, rfl, ho, hr, hb⟩ := hrel
          have hlz := HML.out
          have hml := mid_len (L := mid L Z j (V.length + 1)) (j := j) hr.len (by omega)
          have hmz : ∀ i, i < V.length + 1 → wa (mid L Z j (V.length + 1)) (j + i) = wa Z i := fun i hi => by
            have := mid_seg (L := L) (j := j) HZZ.out.2 (by omega)
            have h3 : wa Z i = wa (((mid L Z j (V.length + 1)).drop j).take (V.length + 1)) i := by rw [this]
            rw [h3]
            unfold wa
            rw [List.getElem?_take, if_pos hi, List.getElem?_drop]
          by_cases hkx : k < V.length
          · have hvk := hb.cell (hV k hkx) hNe
            have hgk := ho.cell (by omega) (j + k) (by omega)
            rw [mid_at hr.len (by omega), hmz k (by omega)] at hgk
            have hgf := ho.frozen (by omega) (j + k)
            have hsb := wf_at HZZ.out.1 k
            have hvb := wf_at hVw k
            have hcb := And.intro hr.c0 hr.c1
            have HH := Lib.hid (And.intro ho (And.intro hr (And.intro hb (And.intro hml hlz))))
            clear ho hr hb hml hV hmz hlz
            go_wp2_with (rw [add64 hsb hvb hcb])
            go_roundw
            case rel =>
              obtain ⟨ho, hr, hb, hml, hlz⟩ := HH.out
              have h2 := ho.store (by omega) (j + k) (alo (wa Z k) (wa V k) c2)
              rw [mid_set _ hr.len (by omega)] at h2
              exact ⟨k + 1, _, _, by omega, by go_num, rfl, h2.1, hr.step HZZ.out.1 hVw, grownBy_trans hb h2.2⟩
            case measure => simp [intOf]; omega
          · obtain rfl : k = V.length := by omega
            have hgk := ho.cell (by omega) (j + V.length) (by omega)
            rw [mid_at hr.len (by omega), hmz V.length (by omega)] at hgk
            have hgf := ho.frozen (by omega) (j + V.length)
            have hone := HO.out
            have hfv := HFV.out
            obtain ⟨y1, y2⟩ := hr.put HZZ.out.1 HZZ.out.2 (T := val S - q * val V + val V) (by omega) (by omega)
            have hyl : (ys ++ [IntKind.u64.wrap (wa Z V.length + c2)]).length = V.length + 1 := by simp [hr.len]
            have h2 := ho.store (by omega) (j + V.length) (IntKind.u64.wrap (wa Z V.length + c2))
            rw [mid_set _ hr.len (by omega), mid_mid HZZ.out.2 (by omega) (Nat.le_refl _) hyl, List.drop_of_length_le (by rw [HZZ.out.2]; exact Nat.le_refl _), List.append_nil] at h2
            have HFIN := Lib.hid (HP.out _ true _ h2.1 (grownBy_trans hb h2.2) hyl y1 (.inr ⟨rfl, HF.out.2.1, y2⟩))
            clear ho hr hb hml hV hmz hlz hone hfv y1 y2 h2 hyl
            go_wp2
            go_ret
            exact HFIN.out
end Go.Proofs.YtkfpjhjmedodlaaGreatDoor

/- wide.DivMod: the plain law of its loop. -/
namespace Go.Proofs.YtkfpjhjmedodlaaGreatDoor
open Go.RowKit Wd
structure DmRel (U V L O : List Int) (t : Nat) : Prop where
  llen : L.length = U.length
  lwf : Wf L
  olen : O.length = U.length - V.length
  owf : Wf O
  low : ∀ i, i < t → wa L i = wa U i
  hi : val (L.drop t) < val V
  eq : val (O.drop t) * val V + val (L.drop t) = val (U.drop t)
theorem val_top3 {S : List Int} {m : Nat} (h : S.length = m + 3) : val S = (wa S (m + 2) * B * B + wa S (m + 1) * B + wa S m) * pw m + val (S.take m) := by
  rw [val_split S m (by omega), val_drop S m (by omega), val_drop S (m + 1) (by omega), val_drop S (m + 1 + 1) (by omega), List.drop_of_length_le (i := m + 1 + 1 + 1) (by omega), val_nil]
  grind
theorem val_top2 {S : List Int} {m : Nat} (h : S.length = m + 2) : val S = (wa S (m + 1) * B + wa S m) * pw m + val (S.take m) := by
  rw [val_split S m (by omega), val_drop S m (by omega), val_drop S (m + 1) (by omega), List.drop_of_length_le (i := m + 1 + 1) (by omega), val_nil]
  grind
theorem drop_zero_of {L : List Int} {t n : Nat} (hw : Wf L) (ht : t + n ≤ L.length) (h : val (L.drop t) < pw n) : val (L.drop (t + n)) = 0 := by
  have h1 := val_split (L.drop t) n (by simp; omega)
  rw [List.drop_drop] at h1
  have h2 := val_nonneg (wf_take (wf_drop hw t) n)
  have h3 := val_nonneg (wf_drop hw (t + n))
  rcases Int.lt_or_le 0 (val (L.drop (t + n))) with h4 | h4
  · exfalso
    have : pw n * 1 ≤ pw n * val (L.drop (t + n)) := Int.mul_le_mul_of_nonneg_left (by omega) (Int.le_of_lt (pw_pos n))
    omega
  · omega
/-- What the round needs: the guess's premises, and that the guess is the digit or 1 more. -/
theorem DmRel.guess {U V L O : List Int} {j m : Nat} (h : DmRel U V L O (j + 1)) (hV : Wf V) (hm : V.length = m + 2) (hj : j + m + 3 ≤ U.length) (ht : 9223372036854775808 ≤ wa V (m + 1)) :
    G3 (wa L (j + m + 2)) (wa L (j + m + 1)) (wa L (j + m)) (wa V (m + 1)) (wa V m) ∧ val (L.drop j) = val ((L.drop j).take (m + 3)) ∧ val (L.drop (j + m + 3)) = 0 ∧ 0 < val V ∧
      val (L.drop j) = wa U j + B * val (L.drop (j + 1)) ∧
      val (L.drop j) / val V ≤ gq (wa L (j + m + 2)) (wa L (j + m + 1)) (wa L (j + m)) (wa V (m + 1)) (wa V m) ∧
      gq (wa L (j + m + 2)) (wa L (j + m + 1)) (wa L (j + m)) (wa V (m + 1)) (wa V m) ≤ val (L.drop j) / val V + 1 := by
  have hl := h.llen
  have hVlt := val_lt hV
  rw [hm] at hVlt
  have hz := drop_zero_of (t := j + 1) (n := m + 2) h.lwf (by omega) (Int.lt_trans h.hi hVlt)
  rw [show j + 1 + (m + 2) = j + m + 3 by omega] at hz
  have hd := val_drop L j (by omega)
  have hlow := h.low j (by omega)
  have hS := val_split (L.drop j) (m + 3) (by simp; omega)
  rw [List.drop_drop, show j + (m + 3) = j + m + 3 by omega, hz, Int.mul_zero, Int.add_zero] at hS
  have hSl : ((L.drop j).take (m + 3)).length = m + 3 := by simp; omega
  have hSw : Wf ((L.drop j).take (m + 3)) := wf_take (wf_drop h.lwf j) _
  have hwa : ∀ i, i < m + 3 → wa ((L.drop j).take (m + 3)) i = wa L (j + i) := fun i hi => by
    unfold wa
    rw [List.getElem?_take, if_pos hi, List.getElem?_drop]
  have t3 := val_top3 hSl
  have t2 := val_top2 hm
  rw [hwa _ (by omega), hwa _ (by omega), hwa _ (by omega)] at t3
  have hu := val_lt (wf_take hSw m)
  have hu0 := val_nonneg (wf_take hSw m)
  have hz1 := val_lt (wf_take hV m)
  have hz0 := val_nonneg (wf_take hV m)
  rw [List.length_take, Nat.min_eq_left (by omega)] at hu hz1
  have hp := pw_pos m
  have a1 := wf_at h.lwf (j + m + 2)
  have b1 := wf_at h.lwf (j + m + 1)
  have c1 := wf_at h.lwf (j + m)
  have v1 := wf_at hV (m + 1)
  have w1 := wf_at hV m
  have hVpos : 0 < val V := by
    have h0 := val_nonneg (wf_drop h.lwf (j + 1))
    have := h.hi
    omega
  have hlt : val (L.drop j) < val V * B := by
    have h5 : B * (val (L.drop (j + 1)) + 1) ≤ B * val V := Int.mul_le_mul_of_nonneg_left (by have := h.hi; omega) (Int.le_of_lt B_pos)
    have := wf_at h.lwf j
    rw [Int.mul_add] at h5
    rw [hd, Int.mul_comm (val V)]
    omega
  have hle : wa L (j + m + 2) ≤ wa V (m + 1) := by
    rcases Int.lt_or_le (wa V (m + 1)) (wa L (j + m + 2)) with h6 | h6
    · exfalso
      have h7 : (wa V (m + 1) + 1) * B ≤ wa L (j + m + 2) * B := Int.mul_le_mul_of_nonneg_right (by omega) (Int.le_of_lt B_pos)
      have h8 : (wa V (m + 1) * B + wa V m + 1) * pw m ≤ (wa L (j + m + 2) * B + wa L (j + m + 1)) * pw m := Int.mul_le_mul_of_nonneg_right (by rw [Int.add_mul] at h7; omega) (Int.le_of_lt hp)
      have h9 : (wa L (j + m + 2) * B + wa L (j + m + 1)) * pw m ≤ val (L.drop (j + 1)) := by
        have e : val (L.drop (j + 1)) = val ((L.drop (j + 1)).take m) + pw m * val ((L.drop (j + 1)).drop m) := val_split _ _ (by simp; omega)
        have e2 : val ((L.drop (j + 1)).drop m) = wa L (j + m + 1) + B * (wa L (j + m + 2) + B * val (L.drop (j + m + 3))) := by
          rw [List.drop_drop, show j + 1 + m = j + m + 1 by omega, val_drop L _ (by omega), val_drop L _ (by omega)]
        have h10 := val_nonneg (wf_take (wf_drop h.lwf (j + 1)) m)
        rw [e, e2, hz]
        generalize pw m = p at *
        generalize val ((L.drop (j + 1)).take m) = x at *
        have : (wa L (j + m + 2) * B + wa L (j + m + 1)) * p = p * (wa L (j + m + 1) + B * (wa L (j + m + 2) + B * 0)) := by grind
        omega
      have := h.hi
      rw [Int.add_mul _ 1, Int.one_mul] at h8
      omega
    · exact h6
  have G : G3 (wa L (j + m + 2)) (wa L (j + m + 1)) (wa L (j + m)) (wa V (m + 1)) (wa V m) := ⟨⟨a1.1, hle⟩, b1, c1, ⟨ht, v1.2⟩, w1⟩
  have D := gq_digit G (U := val (L.drop j)) (V := val V) (p := pw m) (by rw [hS]; exact t3) t2 hp ⟨hu0, hu⟩ ⟨hz0, hz1⟩ hlt
  exact ⟨G, hS, hz, hVpos, by rw [hd, hlow], D.1, D.2⟩
/-- The round. -/
theorem DmRel.step {U V L O zs : List Int} {j n : Nat} (h : DmRel U V L O (j + 1)) (hn : V.length = n) (hj : j + n + 1 ≤ U.length) (hz : val (L.drop (j + n + 1)) = 0) (hVp : 0 < val V) (hd : val (L.drop j) = wa U j + B * val (L.drop (j + 1)))
    (hzl : zs.length = n + 1) (hzw : Wf zs) (hv : val zs = val (L.drop j) - val (L.drop j) / val V * val V) (hQB : val (L.drop j) / val V < B) :
    DmRel U V (mid L zs j (n + 1)) (O.set j (val (L.drop j) / val V)) j := by
  have hl := h.llen
  have ho := h.olen
  have hml := mid_len (L := L) (j := j) hzl (by omega)
  have hjo : j < O.length := by omega
  have hL0 := val_nonneg (wf_drop h.lwf j)
  have hm := Int.mul_ediv_add_emod (val (L.drop j)) (val V)
  have hm0 := Int.emod_nonneg (val (L.drop j)) (Int.ne_of_gt hVp)
  have hm1 := Int.emod_lt_of_pos (val (L.drop j)) hVp
  have hQ0 : 0 ≤ val (L.drop j) / val V := Int.ediv_nonneg hL0 (Int.le_of_lt hVp)
  rw [Int.mul_comm] at hm
  have hdrop : val ((mid L zs j (n + 1)).drop j) = val zs := by
    rw [val_split ((mid L zs j (n + 1)).drop j) (n + 1) (by simp; omega), mid_seg hzl (by omega), List.drop_drop]
    have : (mid L zs j (n + 1)).drop (j + (n + 1)) = L.drop (j + n + 1) := by
      unfold mid
      rw [List.drop_append, List.drop_of_length_le (by simp; omega)]
      have e : j + (n + 1) - (L.take j ++ zs).length = 0 := by simp [hzl]; omega
      rw [e]
      simp [Nat.add_assoc]
    rw [this, hz]
    simp
  refine ⟨by omega, mid_wf h.lwf hzw, by simp [ho], wf_set h.owf hQ0 hQB, fun i hi => ?_, by rw [hdrop]; omega, ?_⟩
  · rw [← h.low i (by omega)]
    unfold mid wa
    rw [List.append_assoc, List.getElem?_append_left (by simp; omega), List.getElem?_take, if_pos hi]
  · rw [hdrop, drop_set_self _ _ _ hjo, val_cons, val_drop U j (by omega), ← h.eq, hv]
    rw [hd] at hv ⊢
    generalize (wa U j + B * val (L.drop (j + 1))) / val V = Q at *
    grind
theorem DmRel.fin {U V L O : List Int} {a b s : Nat} (h : DmRel U V L O 0) (hU : val U = ((a * 2 ^ s : Nat) : Int)) (hV : val V = ((b * 2 ^ s : Nat) : Int)) : val O = ((a / b : Nat) : Int) ∧ val L = ((a % b * 2 ^ s : Nat) : Int) := by
  have he := h.eq
  have hh := h.hi
  rw [List.drop_zero, List.drop_zero, List.drop_zero] at he
  rw [List.drop_zero] at hh
  obtain ⟨o, ho⟩ := Int.eq_ofNat_of_zero_le (val_nonneg h.owf)
  obtain ⟨l, hl⟩ := Int.eq_ofNat_of_zero_le (val_nonneg h.lwf)
  rw [ho, hl, hV, hU] at he
  rw [hl, hV] at hh
  have e : o * (b * 2 ^ s) + l = a * 2 ^ s := by
    have : ((o * (b * 2 ^ s) + l : Nat) : Int) = ((a * 2 ^ s : Nat) : Int) := by rw [← he, Int.natCast_add, Int.natCast_mul o]
    omega
  have hlt : l < b * 2 ^ s := by omega
  have hp := Nat.two_pow_pos s
  rw [ho, hl]
  constructor
  · have : a * 2 ^ s / (b * 2 ^ s) = o := by rw [← e, Nat.mul_comm o, Nat.mul_add_div (by omega), Nat.div_eq_of_lt hlt, Nat.add_zero]
    rw [Nat.mul_div_mul_right _ _ hp] at this
    rw [this]
  · have : a * 2 ^ s % (b * 2 ^ s) = l := by rw [← e, Nat.mul_comm o, Nat.mul_add_mod, Nat.mod_eq_of_lt hlt]
    rw [Nat.mul_mod_mul_right] at this
    rw [this]
/-- The divisor, shifted until its highest bit is set. -/
theorem normal_of {b t s : Nat} (hb : b ≠ 0) (ht : wa (wd b) ((wd b).length - 1) = t) (hs : Lib.bitLen t + s = 64) :
    (wd (b * 2 ^ s)).length = (wd b).length ∧ 9223372036854775808 ≤ wa (wd (b * 2 ^ s)) ((wd b).length - 1) ∧ pw ((wd b).length - 1) * 9223372036854775808 ≤ ((b * 2 ^ s : Nat) : Int) := by
  obtain ⟨t0, t1, hn⟩ := nbits_top hb t ht
  obtain ⟨-, -, b3, b4⟩ := Wd.bitLen_spec t t0 t1
  have hl := List.length_pos_iff.2 (fun e => hb (wd_eq_nil.1 e))
  have h1 := lt_two_nbits b
  have h2 := two_nbits_le hb
  have e1 : nbits b + s = 64 * (wd b).length := by omega
  have u1 : b * 2 ^ s < 2 ^ (64 * (wd b).length) := by
    rw [← e1, Nat.pow_add]
    exact Nat.mul_lt_mul_of_pos_right h1 (Nat.two_pow_pos s)
  have u2 : 2 ^ (64 * ((wd b).length - 1)) * 2 ^ 63 ≤ b * 2 ^ s := by
    rw [← Nat.pow_add, show 64 * ((wd b).length - 1) + 63 = (nbits b - 1) + s by omega, Nat.pow_add]
    exact Nat.mul_le_mul_right _ h2
  have k1 : (wd (b * 2 ^ s)).length ≤ (wd b).length := wd_len_le (by rw [pw_two]; omega)
  have k3 : pw ((wd b).length - 1) * 9223372036854775808 ≤ ((b * 2 ^ s : Nat) : Int) := by
    rw [pw_two]
    have : ((2 ^ (64 * ((wd b).length - 1)) * 2 ^ 63 : Nat) : Int) ≤ ((b * 2 ^ s : Nat) : Int) := by omega
    rw [Int.natCast_mul] at this
    simpa using this
  have k2 : ¬ (wd (b * 2 ^ s)).length ≤ (wd b).length - 1 := fun h => by
    have := wd_len_iff.1 h
    have hp := pw_pos ((wd b).length - 1)
    have : pw ((wd b).length - 1) * 1 ≤ pw ((wd b).length - 1) * 9223372036854775808 := Int.mul_le_mul_of_nonneg_left (by decide) (Int.le_of_lt hp)
    omega
  have k4 : (wd (b * 2 ^ s)).length = (wd b).length := by omega
  refine ⟨k4, ?_, k3⟩
  have hv := val_split (wd (b * 2 ^ s)) ((wd b).length - 1) (by omega)
  rw [val_wd, val_drop _ _ (by omega), List.drop_of_length_le (by omega), val_nil, Int.mul_zero, Int.add_zero] at hv
  have l1 := val_lt (wf_take (wf_wd (b * 2 ^ s)) ((wd b).length - 1))
  rw [List.length_take, Nat.min_eq_left (by omega)] at l1
  have hp := pw_pos ((wd b).length - 1)
  rcases Int.lt_or_le (wa (wd (b * 2 ^ s)) ((wd b).length - 1)) 9223372036854775808 with h6 | h6
  · exfalso
    have : pw ((wd b).length - 1) * (wa (wd (b * 2 ^ s)) ((wd b).length - 1) + 1) ≤ pw ((wd b).length - 1) * 9223372036854775808 := Int.mul_le_mul_of_nonneg_left (by omega) (Int.le_of_lt hp)
    rw [Int.mul_add] at this
    omega
  · exact h6
/-- The dividend's row: two zeros more, cut to one word more than the number has. -/
theorem dividend {a s lx : Nat} (hlx : (wd a).length = lx) (hs : s < 64) :
    ((wd (a * 2 ^ s) ++ [0, 0]).take (lx + 1)).length = lx + 1 ∧ Wf ((wd (a * 2 ^ s) ++ [0, 0]).take (lx + 1)) ∧ val ((wd (a * 2 ^ s) ++ [0, 0]).take (lx + 1)) = ((a * 2 ^ s : Nat) : Int) ∧ lx ≤ (wd (a * 2 ^ s)).length ∧ (wd (a * 2 ^ s)).length ≤ lx + 1 := by
  have h1 := lt_pw_len a
  rw [hlx, pw_two] at h1
  have h2 : a * 2 ^ s < 2 ^ (64 * (lx + 1)) := by
    rw [show 64 * (lx + 1) = 64 * lx + 64 by omega, Nat.pow_add]
    have h3 : 2 ^ s ≤ 2 ^ 64 := Nat.pow_le_pow_right (by decide) (by omega)
    calc a * 2 ^ s < 2 ^ (64 * lx) * 2 ^ s := Nat.mul_lt_mul_of_pos_right (by omega) (Nat.two_pow_pos s)
      _ ≤ _ := Nat.mul_le_mul_left _ h3
  have k1 : (wd (a * 2 ^ s)).length ≤ lx + 1 := wd_len_le (by rw [pw_two]; omega)
  have k2 : lx ≤ (wd (a * 2 ^ s)).length := by
    rw [← hlx]
    apply wd_len_mono
    have := Nat.mul_le_mul_left a (Nat.two_pow_pos s)
    omega
  refine ⟨by simp; omega, wf_take (wf_append.2 ⟨wf_wd _, wf_zeros 2⟩) _, ?_, k2, k1⟩
  rw [List.take_append, List.take_of_length_le k1, val_append, val_wd]
  have : val (([0, 0] : List Int).take (lx + 1 - (wd (a * 2 ^ s)).length)) = 0 := by
    have e : lx + 1 - (wd (a * 2 ^ s)).length = 0 ∨ lx + 1 - (wd (a * 2 ^ s)).length = 1 := by omega
    rcases e with e | e <;> rw [e] <;> decide
  rw [this]
  simp
theorem DmRel.start {U V : List Int} {a b s lx n : Nat} (hU : val U = ((a * 2 ^ s : Nat) : Int)) (hV : val V = ((b * 2 ^ s : Nat) : Int)) (hUl : U.length = lx + 1) (hVl : V.length = n) (hUw : Wf U) (hlx : (wd a).length = lx) (hn : 0 < n) (hnl : n ≤ lx) (hs : s < 64)
    (hb : pw (n - 1) * 9223372036854775808 ≤ ((b * 2 ^ s : Nat) : Int)) : DmRel U V U (List.replicate (lx + 1 - n) 0) (lx + 1 - n) := by
  refine ⟨rfl, hUw, by simp [hUl, hVl], wf_zeros _, fun i _ => rfl, ?_, ?_⟩
  · have h1 := lt_pw_len a
    rw [hlx] at h1
    have hsp := val_split U (lx + 1 - n) (by omega)
    have h0 := val_nonneg (wf_take hUw (lx + 1 - n))
    rw [hU] at hsp
    have hp := pw_pos (lx + 1 - n)
    have h2 : ((a * 2 ^ s : Nat) : Int) < pw (lx + 1 - n) * (pw (n - 1) * 9223372036854775808) := by
      rw [← Int.mul_assoc, ← pw_add, show lx + 1 - n + (n - 1) = lx by omega]
      have h3 : ((2 ^ s : Nat) : Int) ≤ 9223372036854775808 := by
        have : 2 ^ s ≤ 2 ^ 63 := Nat.pow_le_pow_right (by decide) (by omega)
        omega
      have h4 := pw_pos lx
      calc ((a * 2 ^ s : Nat) : Int) = (a : Int) * ((2 ^ s : Nat) : Int) := by simp
        _ < pw lx * ((2 ^ s : Nat) : Int) := Int.mul_lt_mul_of_pos_right h1 (by have := Nat.two_pow_pos s; omega)
        _ ≤ _ := Int.mul_le_mul_of_nonneg_left h3 (Int.le_of_lt h4)
    have h5 : pw (lx + 1 - n) * val (U.drop (lx + 1 - n)) < pw (lx + 1 - n) * (pw (n - 1) * 9223372036854775808) := by omega
    have h6 := Int.lt_of_mul_lt_mul_left h5 (Int.le_of_lt hp)
    rw [hV]
    omega
  · rw [List.drop_of_length_le (by simp), val_nil]
    simp
end Go.Proofs.YtkfpjhjmedodlaaGreatDoor

/- wide.DivMod: the walk. -/
set_option maxRecDepth 100000
namespace Go.Proofs.YtkfpjhjmedodlaaGreatDoor
open Go.RowKit Wd
namespace Wd
theorem Own.cases {B0 : Nat} {w : World} {v : Value} {xs : List Int} (h : Own B0 w v xs) (hne : xs ≠ []) : ∃ g cap, v = .slice (some ⟨g, 0, none⟩) xs.length cap ∧ xs.length ≤ cap ∧ B0 ≤ g ∧ g < w.heap.size := by
  rcases h.2 with ⟨hv, hn⟩ | ⟨g, cap, cur, hv, hg, hh, hl, _⟩
  · exact absurd (List.length_eq_zero_iff.1 hn) hne
  · exact ⟨g, cap, hv, hl, hg, (Array.getElem?_eq_some_iff.1 hh).1⟩
theorem Own.take {B0 : Nat} {w : World} {g n cap : Nat} {xs : List Int} (h : Own B0 w (.slice (some ⟨g, 0, none⟩) n cap) xs) (m : Nat) (hm : m ≤ n) (hn : xs.length = n) : Own B0 w (.slice (some ⟨g, 0, none⟩) m cap) (xs.take m) := by
  subst hn
  rcases h.2 with ⟨hv, _⟩ | ⟨g', cap', cur, hv, hg, hh, hl, hcm, hcs, ht⟩
  · cases hv
  · simp only [Value.slice.injEq, Option.some.injEq, Addr.mk.injEq, and_true, true_and] at hv
    obtain ⟨rfl, rfl⟩ := hv
    refine ⟨by simp [u64s], .inr ⟨g, cap, cur, by simp [Nat.min_eq_left hm], hg, hh, by simp; omega, hcm, hcs, ?_⟩⟩
    rw [Nat.mul_one] at ht
    rw [Nat.mul_one, List.length_take, Nat.min_eq_left hm, show u64s (xs.take m) = (u64s xs).take m by simp [u64s, List.map_take], ← ht, List.take_take, Nat.min_eq_left hm]
theorem Own.keep {B0 : Nat} {w w' : World} {g g2 n cap : Nat} {xs : List Int} (h : Own B0 w (.slice (some ⟨g, 0, none⟩) n cap) xs) (hg : w.grownBy w' (some g2)) (hne : g ≠ g2) : Own B0 w' (.slice (some ⟨g, 0, none⟩) n cap) xs :=
  World.ownsRow.kept h hg (.inr (by simp [Value.ownBlock]; exact hne))
theorem below_grown {B0 : Nat} {a w w' : World} {g : Nat} (h : Below B0 a w) (hg : w.grownBy w' (some g)) (hB : B0 ≤ w.heap.size) (hgB : B0 ≤ g) : Below B0 a w' := h.grown hg hB (fun k hk => by cases hk; exact hgB)
end Wd

theorem res2_lt {a b : Nat} {w : World} {v : Value} {w' : World} (h : a < b) (ho : Own w.heap.size w' v (wd a)) (hb : Below w.heap.size w w') : Res2 (a / b) (a % b) w (.returned (.tuple #[.slice none 0 0, v])) w' :=
  ⟨_, v, rfl, by rw [Nat.div_eq_of_lt h, wd_zero]; exact Own.nil _ _, by rw [Nat.mod_eq_of_lt h]; exact ho, hb⟩

set_option maxHeartbeats 4000000 in
theorem divMod_any {w : World} {x y : Value} {xs ys : List Int} {a b : Nat} (hx : Nm w x xs a) (hy : Nm w y ys b) (hb : b ≠ 0) (hs : xs.length + ys.length ≤ 80000000) :
    Calls Tryz.prog 105 #[x, y] w (Res2 (a / b) (a % b) w) := by
  have hvx := view_any hx
  have hvy := view_any hy
  have hlx := val_len_le hx.wf hx.val
  have hly := val_len_le hy.wf hy.val
  go_enter Tryz.func105, Tryz.ntmps105
  go_wp2_with fail
  refine hvx.mono ?_
  rintro e w' ⟨rfl, x', rfl, hrx, hsx⟩
  go_wp2_with fail
  refine hvy.mono ?_
  rintro e w' ⟨rfl, y', rfl, hry, hsy⟩
  clear hvx hvy hx hy
  have hnx : Nm w x' (wd a) a := ⟨hrx, wf_wd a, val_wd a, by omega⟩
  have hny : Nm w y' (wd b) b := ⟨hry, wf_wd b, val_wd b, by omega⟩
  have hc := cmp_any hnx hny
  go_wp2_with fail
  refine hc.mono ?_
  rintro e w' ⟨rfl, n0, rfl⟩
  clear hc
  have hnx0 := hnx.below (Drew.below ⟨n0, rfl⟩)
  have hny0 := hny.below (Drew.below ⟨n0, rfl⟩)
  have hb0 : Below w.heap.size w (w.drewN n0) := Drew.below ⟨n0, rfl⟩
  rcases hsy with ⟨h, -, -⟩ | ⟨by_, oy, my, cy, rfl, rfl, -⟩
  · exact absurd h hb
  generalize hW : w.drewN n0 = W0 at *
  have HW := Lib.hid hW
  clear hW
  by_cases hab : a < b
  · rw [ncmp_lt hab]
    have ht := trim_any hnx0
    clear hnx hny hnx0 hny0 hrx hry hsx
    go_wp2_with fail
    refine ht.mono ?_
    rintro e w' ⟨v, rfl, hown, hbw⟩
    have hfin := res2_lt hab (hown.mono hb0.size) (below_trans hb0 hbw)
    clear ht hown hbw
    go_wp2
    go_ret2
    exact hfin
  have hc0 : ¬ ncmp a b < 0 := by unfold ncmp; split <;> (try split) <;> omega
  rcases hsx with ⟨rfl, -, -⟩ | ⟨bx, ox, mx, cx, rfl, rfl, -⟩
  · omega
  have hbp := List.length_pos_iff.2 (fun e => hb (wd_eq_nil.1 e))
  have hlen := wd_len_mono (show b ≤ a by omega)
  have hY := hny0.rd.at
  by_cases hl1 : (wd b).length = 1
  · have hd : wa (wd b) 0 = b := by
      have h1 := val_wd b
      rw [val_split (wd b) 0 (by omega), val_drop _ _ (by omega), List.drop_of_length_le (i := 0 + 1) (by omega)] at h1
      simpa [val_nil, pw_zero] using h1
    have hbB : (b : Int) < B := by rw [← hd]; exact (wf_at (wf_wd b) 0).2
    have hY0 := hY 0 (by omega)
    rw [hd, Nat.add_zero] at hY0
    have hdw := divWord_any hnx0 (d := (b : Int)) (by omega) hbB
    have hwd := fun W => word_any (x := ((a % b : Nat) : Int)) ⟨by omega, by have := Nat.mod_lt a (show b > 0 by omega); omega⟩ W
    rw [show (b : Int).toNat = b by omega] at hdw
    rw [show ((a % b : Nat) : Int).toNat = a % b by omega] at hwd
    generalize (wd b).length = Lb at *
    subst hl1
    have HH := Lib.hid (And.intro hdw hwd)
    clear hnx hny hnx0 hny0 hrx hry hdw hwd hd hY
    clear hbB hb hlen hs hlx hly hbp hab
    go_wp2_with fail

    refine HH.out.1.mono ?_
    rintro e w1 ⟨v, rfl, hown, hbw⟩
    have HB := Lib.hid (And.intro hown hbw)
    clear hown hbw
    go_wp2_with fail
    refine (HH.out.2 _).mono ?_
    rintro e w2 ⟨u, rfl, hown2, hbw2⟩
    obtain ⟨hown, hbw⟩ := HB.out
    have hfin : Res2 (a / b) (a % b) w (.returned (.tuple #[v, u])) w2 := ⟨v, u, rfl, (hown.below hbw2).mono hb0.size, hown2.mono (Nat.le_trans hb0.size hbw.size), below_trans hb0 (below_trans hbw hbw2)⟩
    clear hown hbw hown2 hbw2 HB HH
    go_wp2
    go_ret2
    exact hfin
  have hl1' : (((wd b).length : Int) == 1) = false := beq_eq_false_iff_ne.2 (by omega)
  obtain ⟨t, ht⟩ := Int.eq_ofNat_of_zero_le (wf_at (wf_wd b) ((wd b).length - 1)).1
  obtain ⟨t0, t1, -⟩ := nbits_top hb t ht
  obtain ⟨-, -, k3, k4⟩ := Wd.bitLen_spec t t0 t1
  obtain ⟨s, hs64⟩ : ∃ s, Lib.bitLen t + s = 64 := ⟨64 - Lib.bitLen t, by omega⟩
  obtain ⟨n1, n2, n3⟩ := normal_of hb ht hs64
  have hYt := hY ((wd b).length - 1) (by omega)
  rw [ht] at hYt
  have hlz := lz64 t1 hs64 W0
  have hshy := shl_any hny0 s (by omega)
  go_wp2_with fail
  refine hlz.mono ?_
  rintro e w' ⟨rfl, rfl⟩
  go_wp2_with fail
  refine hshy.mono ?_
  rintro e w1 ⟨v, rfl, hov, hb1⟩
  obtain ⟨gv, capv, rfl, hcv, hgv0, hgv1⟩ := hov.cases (fun e => by rw [e] at n1; simp at n1; omega)
  rw [n1] at hov hcv ⊢
  have hnx1 := hnx0.below hb1
  have hshx := shl_any hnx1 s (by omega)
  have HH := Lib.hid (And.intro hov hb1)
  clear hlz hshy hov hb1 hnx hny hnx0 hny0 hrx hry hY hYt hnx1
  go_wp2_with fail
  refine hshx.mono ?_
  rintro e w2 ⟨u0, rfl, hou, hb2⟩
  obtain ⟨hov, hb1⟩ := HH.out
  have hd := dividend (a := a) (s := s) rfl (by omega)
  have HS := Lib.hid (And.intro hb1 hb2)
  have HOV := Lib.hid (hov.below hb2)
  have HOVc := Lib.hid hov.rd.at
  have HD := Lib.hid hd
  have hlsum : (wd (a * 2 ^ s)).length + 2 ≤ 100000000 := by have := hd.2.2.2.2; omega
  have hlge : (wd a).length ≤ (wd (a * 2 ^ s)).length := hd.2.2.2.1
  have hw1w2 : w1.heap.size ≤ w2.heap.size := hb2.size
  have HN := Lib.hid (And.intro n1 (And.intro n2 n3))
  clear hshx hov hb1 hb2 hd HH n1 n2 n3
  have hlens : (wd (a * 2 ^ s) ++ [0, 0]).length = (wd (a * 2 ^ s)).length + 2 := by simp
  have HLens := Lib.hid hlens
  clear hlens
  go_wp2_with (first | (at_builtin; refine wl_append rfl _ _ 24 rfl Tryz.underlying24 (B := w1.heap.size) rfl (hou.below ((Below.refl _ _).alloc (Nat.le_refl _) _)) rfl (own_lit [0, 0] (B := w1.heap.size) hw1w2 (by simp)).rd (by simp; omega) (by simp; omega) ?_; intro u1 w3 ho3 hg3 hb3; obtain ⟨g, cap, rfl, hcap, hgB, hgs⟩ := ho3.cases (by simp); have hcap2 : (wd a).length + 1 ≤ cap := by rw [HLens.out] at hcap; omega) | (at_make; refine wl_make rfl _ _ 24 rfl Tryz.underlying24 (B := w1.heap.size) rfl rfl ((wd a).length + 1 - (wd b).length) (by omega) (by omega) (by have := hb3.size; simp at this; omega) ?_; intro g2 w4 hg4 ho4 hb4))
  have hbw4 : Below w1.heap.size w1 w4 := (HS.out.2.trans ((Below.refl _ _).alloc hw1w2 _)).trans (hb3.trans (hb4.mono (Nat.le_trans (Nat.le_trans hw1w2 (by simp)) hb3.size)))
  have hou4 : Own w1.heap.size w4 (.slice (some ⟨g, 0, none⟩) ((wd a).length + 1) cap) ((wd (a * 2 ^ s) ++ [0, 0]).take ((wd a).length + 1)) := (ho3.take _ (by rw [HLens.out]; omega) rfl).below hb4
  have hVc : ∀ k, k < (wd b).length → w1.cell? ⟨gv, k, none⟩ = some (.int .u64 (wa (wd (b * 2 ^ s)) k)) := fun k hk => by
    have := HOVc.out k (by rw [HN.out.1]; exact hk)
    rwa [Nat.zero_add] at this
  have hgne : g ≠ g2 := by have := hg4.out; omega
  have hg2B : w1.heap.size ≤ g2 := by have := hg4.out; have := hb3.size; simp at this; omega
  have hvg : gv ≠ g := by omega
  have HR0 := Lib.hid (DmRel.start (V := wd (b * 2 ^ s)) (lx := (wd a).length) (n := (wd b).length) HD.out.2.2.1 (val_wd _) HD.out.1 HN.out.1 HD.out.2.1 rfl (by omega) hlen (by omega) HN.out.2.2)
  have HVw := Lib.hid (wf_wd (b * 2 ^ s))
  have HVcc := Lib.hid hVc
  have HVv := Lib.hid (val_wd (b * 2 ^ s))
  have HUv := Lib.hid HD.out.2.2.1
  have HUl := Lib.hid HD.out.1
  have HVl := Lib.hid HN.out.1
  have HVt := Lib.hid HN.out.2.1
  have HO4 := Lib.hid (And.intro hou4 (And.intro ho4 hbw4))
  have HWB := Lib.hid (And.intro hb0 HS.out.1)
  clear hou hou4 ho3 hg3 hb3 hb4 hg4 ho4 hbw4 HD HN HOV HS hcap hlsum hlge HLens hw1w2 hgs hgv0 HOVc
  generalize (wd (a * 2 ^ s) ++ [0, 0]).take ((wd a).length + 1) = U at *
  generalize wd (b * 2 ^ s) = V at *
  have hnb : 2 ≤ (wd b).length := by omega
  generalize (wd a).length = lx at *
  generalize (wd b).length = n at *
  obtain ⟨m, hm⟩ : ∃ m, n = m + 2 := ⟨n - 2, by omega⟩
  have HM := Lib.hid hm
  obtain ⟨P, hP⟩ : ∃ P, lx + 1 = n + P := ⟨lx + 1 - n, by omega⟩
  have eP : lx + 1 - n = P := by omega
  rw [eP] at HR0 HO4 ⊢
  have HP := Lib.hid hP
  clear hP eP hl1 hl1' hbp hm
  go_loopw [13] (fun i wr => ∃ (t : Nat) (L O : List Int), t ≤ P ∧ i = .int .i64 ((t : Int) - 1) ∧ Own w1.heap.size wr (.slice (some ⟨g, 0, none⟩) (lx + 1) cap) L ∧ Own w1.heap.size wr (.slice (some ⟨g2, 0, none⟩) P P) O ∧ DmRel U V L O t ∧ Below w1.heap.size w1 wr) (fun i _ => (intOf i + 1).toNat)
  case atStart => exact ⟨P, _, _, Nat.le_refl _, by congr 1; have := HP.out; omega, HO4.out.1, HO4.out.2.1, HR0.out, HO4.out.2.2⟩
  case round =>
    obtain ⟨t, L, O, ht, rfl, hoL, hoO, hr, hb⟩ := hrel
    have hLl : L.length = lx + 1 := by rw [hr.llen]; exact HUl.out
    have hOl : O.length = P := by rw [hr.olen, HUl.out, HVl.out]; have := HP.out; omega
    by_cases h0 : t = 0
    · subst h0
      have hf := hr.fin HUv.out HVv.out
      have h4 : Nm wr (.slice (some ⟨g2, 0, none⟩) P P) O (a / b) := ⟨hoO.rd, hr.owf, hf.1, by rw [hOl]; have := HP.out; omega⟩
      have h5 : Nm wr (.slice (some ⟨g, 0, none⟩) (lx + 1) cap) L (a % b * 2 ^ s) := ⟨hoL.rd, hr.lwf, hf.2, by rw [hLl]; omega⟩
      have hlen5 := val_len_le h5.wf h5.val
      rw [hLl] at hlen5
      have HBW := Lib.hid (below_trans (below_trans HWB.out.1 HWB.out.2) (hb.mono (Nat.le_refl _)))
      clear hoL hoO hr hb hLl hOl hf hVc
      go_wp2_with fail
      refine (trim_any h4).mono ?_
      rintro e w5 ⟨v5, rfl, ho5, hb5⟩
      have h6 := h5.below hb5
      have H5 := Lib.hid (And.intro ho5 hb5)
      clear ho5 hb5 h4 h5
      go_wp2_with fail
      refine (trim_any h6).mono ?_
      rintro e w6 ⟨v6, rfl, ho6, hb6⟩
      have h7 := ho6.nm (by omega)
      have H6 := Lib.hid hb6
      clear ho6 hb6 h6
      go_wp2_with fail
      refine (shr_any h7 s (by omega)).mono ?_
      rintro e w7 ⟨v7, rfl, ho7, hb7⟩
      rw [Nat.mul_div_cancel _ (Nat.two_pow_pos s)] at ho7
      have hfin : Res2 (a / b) (a % b) w (.returned (.tuple #[v5, v7])) w7 := ⟨v5, v7, rfl, ((H5.out.1.below H6.out).below hb7).mono HBW.out.size, ho7.mono (Nat.le_trans HBW.out.size (Nat.le_trans H5.out.2.size H6.out.size)), below_trans HBW.out (below_trans H5.out.2 (below_trans H6.out hb7))⟩
      clear ho7 hb7 h7
      go_wp2
      go_ret2
      exact hfin
    · obtain ⟨j, rfl⟩ : ∃ j, t = j + 1 := ⟨t - 1, by omega⟩
      have e1 : ((j + 1 : Nat) : Int) - 1 = j := by omega
      rw [e1]
      have hjb : j + n + 1 ≤ lx + 1 := by have := HP.out; omega
      have hm := HM.out
      obtain ⟨G, gS, gz, gV, gd, gq1, gq2⟩ := hr.guess HVw.out (by rw [HVl.out]; exact hm) (by rw [HUl.out]; omega) (by rw [show m + 1 = n - 1 by omega]; exact HVt.out)
      have c1 := hoL.cell hLl (j + n) (by omega)
      have c2 := hoL.cell hLl (j + n - 1) (by omega)
      have c3 := hoL.cell hLl (j + n - 2) (by omega)
      have v1 := (hb.cell (p := ⟨gv, n - 1, none⟩) hgv1).trans (hVc (n - 1) (by omega))
      have v2 := (hb.cell (p := ⟨gv, n - 2, none⟩) hgv1).trans (hVc (n - 2) (by omega))
      rw [show j + m + 2 = j + n by omega, show j + m + 1 = j + n - 1 by omega, show j + m = j + n - 2 by omega, show m + 1 = n - 1 by omega, show m = n - 2 by omega] at G gq1 gq2
      have HG := Lib.hid (guess_any G)
      have HH := Lib.hid (And.intro hoL (And.intro hoO (And.intro hr (And.intro hb (And.intro hLl hOl)))))
      have s1 : IntKind.i64.wrap ((j : Int) + n) = j + n := IntWalk.i64_in _ (by omega)
      have s2 : IntKind.i64.wrap ((j : Int) + n - 1) = j + n - 1 := IntWalk.i64_in _ (by omega)
      have s3 : IntKind.i64.wrap ((j : Int) + n - 2) = j + n - 2 := IntWalk.i64_in _ (by omega)
      have s4 : IntKind.i64.wrap ((n : Int) - 1) = n - 1 := IntWalk.i64_in _ (by omega)
      have s5 : IntKind.i64.wrap ((n : Int) - 2) = n - 2 := IntWalk.i64_in _ (by omega)
      have b1 : 0 ≤ (j : Int) + n ∧ (j : Int) + n < lx + 1 := by omega
      have b2 : 0 ≤ (j : Int) + n - 1 ∧ (j : Int) + n - 1 < lx + 1 := by omega
      have b3 : 0 ≤ (j : Int) + n - 2 ∧ (j : Int) + n - 2 < lx + 1 := by omega
      have b4 : 0 ≤ (n : Int) - 1 ∧ (n : Int) - 1 < n := by omega
      have b5 : 0 ≤ (n : Int) - 2 ∧ (n : Int) - 2 < n := by omega
      have t1 : ((j : Int) + n).toNat = j + n := by omega
      have t2 : ((j : Int) + n - 1).toNat = j + n - 1 := by omega
      have t3 : ((j : Int) + n - 2).toNat = j + n - 2 := by omega
      have t4 : ((n : Int) - 1).toNat = n - 1 := by omega
      have t5 : ((n : Int) - 2).toNat = n - 2 := by omega
      clear hoL hoO hr hb hLl hOl G gS gz gV gd gq1 gq2 hVc hm e1
      go_wp2
      go_quiet ((go_at_call 166; exact Calls.quiet_of (HG.out _)))
      clear s1 s2 s3 s4 s5 b1 b2 b3 b4 b5 t1 t2 t3 t4 t5
      go_wp2_with fail
      rw [show j + n + 1 - j = n + 1 by omega]
      obtain ⟨hoL, hoO, hr, hb, hLl, hOl⟩ := HH.out
      have hm := HM.out
      obtain ⟨G, gS, gz, gV, gd, gq1, gq2⟩ := hr.guess HVw.out (by rw [HVl.out]; exact hm) (by rw [HUl.out]; omega) (by rw [show m + 1 = n - 1 by omega]; exact HVt.out)
      rw [show j + m + 2 = j + n by omega, show j + m + 1 = j + n - 1 by omega, show j + m = j + n - 2 by omega, show m + 1 = n - 1 by omega, show m = n - 2 by omega] at G gq1 gq2
      rw [show j + m + 3 = j + n + 1 by omega] at gz
      rw [show m + 3 = n + 1 by omega] at gS
      have hg0 := G.nonneg
      have hg1 := @gq_lt (wa L (j + n)) (wa L (j + n - 1)) (wa L (j + n - 2)) (wa V (n - 1)) (wa V (n - 2))
      generalize gq (wa L (j + n)) (wa L (j + n - 1)) (wa L (j + n - 2)) (wa V (n - 1)) (wa V (n - 2)) = q at *
      have hone : q * val V ≤ val ((L.drop j).take (V.length + 1)) + val V := by
        rw [HVl.out, ← gS]
        have h1 : q * val V ≤ (val (L.drop j) / val V + 1) * val V := Int.mul_le_mul_of_nonneg_right gq2 (Int.le_of_lt gV)
        have h2 : val (L.drop j) / val V * val V ≤ val (L.drop j) := Int.ediv_mul_le _ (Int.ne_of_gt gV)
        rw [Int.add_mul, Int.one_mul] at h1
        omega
      have hQB : val (L.drop j) / val V < B := by omega
      have hfin : ∀ zs, zs.length = n + 1 → Wf zs → val zs = val (L.drop j) - val (L.drop j) / val V * val V → DmRel U V (mid L zs j (n + 1)) (O.set j (val (L.drop j) / val V)) j := fun zs z1 z2 z3 =>
        hr.step HVl.out (by rw [HUl.out]; omega) gz gV gd z1 z2 z3 hQB
      have hdivF : q * val V ≤ val (L.drop j) → q = val (L.drop j) / val V := fun h => by
        have := (Int.le_ediv_iff_mul_le gV).2 h
        omega
      have hdivT : val (L.drop j) < q * val V → q - 1 = val (L.drop j) / val V := fun h => by
        have := (Int.ediv_lt_iff_lt_mul gV).2 h
        omega
      have hLess := fun k => less_any (q := q) (cu := cap - j) (bv := gv) (ov := 0) (cv := capv) (hoL.drew k) hLl hr.lwf (j := j) (by rw [HVl.out]; omega) (by omega) (V := V) (fun i hi => by
        rw [Nat.zero_add]
        exact (hb.cell (p := ⟨gv, i, none⟩) hgv1).trans (HVcc.out i (by rw [HVl.out] at hi; exact hi))) HVw.out hvg ⟨hg0, hg1⟩ hone
      have HLS := Lib.hid (And.intro gS (And.intro hfin (And.intro hdivF hdivT)))
      clear hone hQB hfin hdivF hdivT hoL hoO hr hb hLl hOl G gS gz gV gd gq1 gq2 hm c1 c2 c3 v1 v2 HG
      rw [HVl.out] at hLess
      refine (hLess _).mono ?_
      rintro e w5 ⟨zs, f, rfl, hoL5, hg5, zl, zw, hcase⟩
      rw [HVl.out] at hoL5 zl hcase
      rw [← HLS.out.1] at hcase
      obtain ⟨hoL, hoO, hr, hb, hLl, hOl⟩ := HH.out
      have hoO5 := ((hoO.drew _).keep hg5 (Ne.symm hgne))
      have hb5 : Below w1.heap.size w1 w5 := below_grown (hb.trans ((Drew.below ⟨_, rfl⟩).mono hb.size)) hg5 (by have := hb.size; exact this) hgB
      have hgk := hoO5.cell hOl j (by omega)
      have hgf := hoO5.frozen hOl j
      have HH5 := Lib.hid (And.intro hoL5 (And.intro hoO5 (And.intro hb5 (And.intro zl (And.intro zw hOl)))))
      clear hLess hoL hoO hr hb hLl hOl hoL5 hoO5 hg5 hb5 zl zw
      have hQ0 : 0 ≤ val (L.drop j) / val V := Int.ediv_nonneg (val_nonneg (wf_drop HH.out.2.2.1.lwf j)) (by have := HH.out.2.2.1.hi; have := val_nonneg (wf_drop HH.out.2.2.1.lwf (j + 1)); omega)
      rcases hcase with ⟨rfl, hle, hv⟩ | ⟨rfl, hle, hv⟩
      · have HQ := Lib.hid (HLS.out.2.2.1 hle)
        have HVAL := Lib.hid (HLS.out.2.1 zs HH5.out.2.2.2.1 HH5.out.2.2.2.2.1 (by rw [hv, ← HQ.out]))
        clear hle hv hQ0
        go_wp2
        go_roundw
        case rel =>
          obtain ⟨hoL5, hoO5, hb5, zl, zw, hOl⟩ := HH5.out
          have h2 := hoO5.store hOl j q
          refine ⟨j, mid L zs j (n + 1), O.set j q, by omega, by go_num, hoL5.keep h2.2 hgne, h2.1, ?_, hb5.setCell hg2B _⟩
          rw [HQ.out]
          exact HVAL.out
        case measure => simp [intOf]
      · have HQ := Lib.hid (HLS.out.2.2.2 hle)
        have HVAL := Lib.hid (HLS.out.2.1 zs HH5.out.2.2.2.1 HH5.out.2.2.2.2.1 (by rw [hv, ← HQ.out, Int.sub_mul]; omega))
        have hw1 : IntKind.u64.wrap (q - 1) = q - 1 := wrap_u64 (by rw [HQ.out]; exact hQ0) (by omega)
        clear hle hv hQ0
        go_wp2
        go_roundw
        case rel =>
          obtain ⟨hoL5, hoO5, hb5, zl, zw, hOl⟩ := HH5.out
          have h2 := hoO5.store hOl j (q - 1)
          refine ⟨j, mid L zs j (n + 1), O.set j (q - 1), by omega, by go_num, hoL5.keep h2.2 hgne, h2.1, ?_, hb5.setCell hg2B _⟩
          rw [HQ.out]
          exact HVAL.out
        case measure => simp [intOf]
end Go.Proofs.YtkfpjhjmedodlaaGreatDoor
