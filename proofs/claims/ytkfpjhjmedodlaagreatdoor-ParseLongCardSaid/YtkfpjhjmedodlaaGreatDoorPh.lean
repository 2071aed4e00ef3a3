/- What the closure flush of wide.FromBase gives. -/
import Derived.Test.YtkfpjhjmedodlaaGreatDoorPg
import Derived.Test.YtkfpjhjmedodlaaGreatDoorPb
import Derived.Deep.RegionHeld3
import Derived.OneCell
/- wide.FromBase's closure flush: what it keeps. -/
set_option maxRecDepth 100000
namespace Go.Proofs.YtkfpjhjmedodlaaGreatDoor
open Go.RowKit Wd
/-- The three captured variables lie in the blocks B0, B0 + 1, B0 + 2; the number is owned behind them. -/
structure FbInv (B0 : Nat) (w : World) (vo : Value) (N : Nat) (t s : Int) : Prop where
  o : w.heap[B0]? = some (.cells #[vo] 24 (0, 0))
  t : w.heap[B0 + 1]? = some (.cells #[.int .u64 t] 76 (0, 0))
  s : w.heap[B0 + 2]? = some (.cells #[.int .u64 s] 76 (0, 0))
  own : Own (B0 + 3) w vo (wd N)
theorem FbInv.lt {B0 : Nat} {w : World} {vo : Value} {N : Nat} {t s : Int} (h : FbInv B0 w vo N t s) : B0 + 3 ≤ w.heap.size := by
  have := (Array.getElem?_eq_some_iff.1 h.s).1
  omega

theorem cell_keep {w w' : World} (hb : Below w.heap.size w w') {a : Addr} {v : Value} (h : w.cell? a = some v) : w'.cell? a = some v := by
  rw [hb.cell (lt_of_cell h)]
  exact h
theorem frozen_keep {w w' : World} (hb : Below w.heap.size w w') {a : Addr} {v : Value} (h : w.cell? a = some v) (f : w.frozen? a = false) : w'.frozen? a = false := by
  rw [hb.frozen (lt_of_cell h)]
  exact f
theorem Wd.Own.shape {B0 : Nat} {w : World} {v : Value} {xs : List Int} (h : Own B0 w v xs) : ∃ A n cap, v = .slice A n cap := by
  rcases h.2 with ⟨hv, _⟩ | ⟨g, cap, cur, hv, _⟩
  · exact ⟨_, _, _, hv⟩
  · exact ⟨_, _, _, hv⟩
theorem Wd.Nm.drewd {w : World} {v : Value} {xs : List Int} {n : Nat} (h : Nm w v xs n) : Nm w.drew v xs n := h.below (Drew.below ⟨1, rfl⟩)
theorem wd_len_word {x : Int} (h0 : 0 ≤ x) (h : x < B) : (wd x.toNat).length ≤ 1 := wd_len_le (by rw [pw_one]; omega)

theorem FbInv.done {B0 : Nat} {w w4 : World} {vo v : Value} {N M : Nat} {t s : Int} (h : FbInv B0 w vo N t s) (hb : Below w.heap.size w w4) (ho : Own w.heap.size w4 v (wd M)) :
    FbInv B0 (((w4.setCell ⟨B0, 0, none⟩ v).setCell ⟨B0 + 1, 0, none⟩ (.int .u64 1)).setCell ⟨B0 + 2, 0, none⟩ (.int .u64 0)) v M 1 0 ∧
    Below B0 w (((w4.setCell ⟨B0, 0, none⟩ v).setCell ⟨B0 + 1, 0, none⟩ (.int .u64 1)).setCell ⟨B0 + 2, 0, none⟩ (.int .u64 0)) := by
  have hlt := h.lt
  have o4 := (hb.block B0 (by omega)).trans h.o
  have t4 := (hb.block (B0 + 1) (by omega)).trans h.t
  have s4 := (hb.block (B0 + 2) (by omega)).trans h.s
  have hne : ∀ k, k < w.heap.size → v.ownBlock ≠ some k := fun k hk e => by
    have := World.ownsRow.lt ho k e
    omega
  refine ⟨⟨?_, ?_, ?_, ?_⟩, (((hb.mono (show B0 ≤ w.heap.size by omega)).setCell (p := ⟨B0, 0, none⟩) (Nat.le_refl _) _).setCell (p := ⟨B0 + 1, 0, none⟩) (Nat.le_succ _) _).setCell (p := ⟨B0 + 2, 0, none⟩) (Nat.le_add_right _ _) _⟩
  · rw [Below.heap_setCell _ _ _ _ (by simp), Below.heap_setCell _ _ _ _ (by simp)]
    exact one_setCell o4
  · rw [Below.heap_setCell _ _ _ _ (by simp)]
    refine one_setCell (v := .int .u64 t) ?_
    rw [Below.heap_setCell _ _ _ _ (by simp)]
    exact t4
  · refine one_setCell (v := .int .u64 s) ?_
    rw [Below.heap_setCell _ _ _ _ (by simp), Below.heap_setCell _ _ _ _ (by simp)]
    exact s4
  · exact ownsRow_setCell_other (ownsRow_setCell_other (ownsRow_setCell_other (Own.mono ho hlt) (hne B0 (by omega)) _) (hne (B0 + 1) (by omega)) _) (hne (B0 + 2) (by omega)) _

end Go.Proofs.YtkfpjhjmedodlaaGreatDoor

/- wide.FromBase: the closure flush. -/
set_option maxRecDepth 100000
namespace Go.Proofs.YtkfpjhjmedodlaaGreatDoor
open Go.RowKit Wd
set_option maxHeartbeats 4000000 in
theorem flush_any {B0 : Nat} {w : World} {vo : Value} {N : Nat} {t s : Int} (h : FbInv B0 w vo N t s) (ht : 0 ≤ t ∧ t < B) (hs : 0 ≤ s ∧ s < B) (hN : (wd N).length ≤ 10000000) :
    Calls Tryz.prog 155 #[.pointer (some ⟨B0, 0, none⟩), .pointer (some ⟨B0 + 1, 0, none⟩), .pointer (some ⟨B0 + 2, 0, none⟩)] w fun e w' => e = .returned (.tuple #[]) ∧ (∃ v, FbInv B0 w' v (N * t.toNat + s.toNat) 1 0) ∧ Below B0 w w' := by
  have c0 := cell_of_one h.o
  have c1 := cell_of_one h.t
  have c2 := cell_of_one h.s
  have f0 := free_of_one h.o
  have f1 := free_of_one h.t
  have f2 := free_of_one h.s
  have hlt := h.lt
  have ho := h.own
  have d0 : w.drew.cell? ⟨B0, 0, none⟩ = some vo := c0
  have d1 : w.drew.cell? ⟨B0 + 1, 0, none⟩ = some (.int .u64 t) := c1
  have d2 : w.drew.cell? ⟨B0 + 2, 0, none⟩ = some (.int .u64 s) := c2
  have df : w.drew.frozen? ⟨B0, 0, none⟩ = false := f0
  have HI := Lib.hid h
  have l1 := wd_len_word ht.1 ht.2
  have l2 := wd_len_word hs.1 hs.2
  have l3 := wd_len_mul N t.toNat
  clear h
  go_enter Tryz.func155, Tryz.ntmps155
  go_wp2_with fail
  go_region_with (first | (go_at_call_of 157 (Value.int IntKind.u64 t); refine (word_any ht _).mono ?_; rintro e w1 ⟨v1, rfl, ho1, hb1⟩; have x0 := cell_keep hb1 d0; have x1 := cell_keep hb1 d1; have x2 := cell_keep hb1 d2; have xf := frozen_keep hb1 d0 df) | (go_at_call 44; refine (mul_any ((ho.nm (by omega)).drewd.below hb1) (ho1.nm (by omega)) (by omega)).mono ?_; rintro e w2 ⟨v2, rfl, ho2, hb2⟩; have y0 := cell_keep hb2 x0; have y1 := cell_keep hb2 x1; have y2 := cell_keep hb2 x2; have yf := frozen_keep hb2 x0 xf) | (go_at_call_of 157 (Value.int IntKind.u64 s); refine (word_any hs _).mono ?_; rintro e w3 ⟨v3, rfl, ho3, hb3⟩; have z0 := cell_keep hb3 y0; have z1 := cell_keep hb3 y1; have z2 := cell_keep hb3 y2; have zf := frozen_keep hb3 y0 yf) | (go_at_call 156; refine (add_any ((ho2.below hb3).nm (by omega)) (ho3.nm (by omega)) (by omega)).mono ?_; rintro e w4 ⟨v4, rfl, ho4, hb4⟩; obtain ⟨A4, n4, k4, rfl⟩ := ho4.shape; have u0 := cell_keep hb4 z0; have u1 := cell_keep hb4 z1; have u2 := cell_keep hb4 z2; have uf := frozen_keep hb4 z0 zf))
  all_goals
    have hw0 : Below w.heap.size w w.drew := Drew.below ⟨1, rfl⟩
    have hb := below_trans (below_trans (below_trans (below_trans hw0 hb1) hb2) hb3) hb4
    have HF := Lib.hid (HI.out.done hb (ho4.mono (below_trans (below_trans (below_trans hw0 hb1) hb2) hb3).size))
    have k1 := frozen_keep hb c1 f1
    have k2 := frozen_keep hb c2 f2
    clear ho1 ho2 ho3 ho4 hb1 hb2 hb3 hb4 hb hw0 x0 x1 x2 xf y0 y1 y2 yf z0 z1 z2 zf u0 uf c0 c1 c2 f0 d0 d1 d2 df l1 l2 l3 ho HI
    go_wp2
    go_end0
    refine ⟨rfl, ⟨_, HF.out.1⟩, HF.out.2⟩
end Go.Proofs.YtkfpjhjmedodlaaGreatDoor
