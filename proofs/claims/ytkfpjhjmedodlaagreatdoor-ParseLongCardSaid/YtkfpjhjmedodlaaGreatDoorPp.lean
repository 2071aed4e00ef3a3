/- The row of ParseLong: its contract, and a witness of its conditions. -/
import Derived.Test.YtkfpjhjmedodlaaGreatDoorCards
import Derived.Test.YtkfpjhjmedodlaaGreatDoorPo
import Derived.ProofKit
import Derived.OpenShut
import Derived.LaidMore
import Derived.Lay
import Derived.Lib.LaidTab
import Derived.Deep.DeepHandedRow
import Derived.Test.YtkfpjhjmedodlaaGreatDoorTie
import Derived.Lib.SmallJoins
import Derived.SevenTiedAt
/- What the row's list gives: the table of the trailing zeros, the table of the roundings. -/
set_option maxRecDepth 100000
namespace Go.Proofs.YtkfpjhjmedodlaaGreatDoor
open Go.RowKit Go.ChangeShapes Go.WideShapes Go.ChangeAt Wd
theorem gDe : Tryz.prog.globalNamed "math/bits.deBruijn64tab" = some 2 := by kernel_rfl
theorem gMore : Tryz.prog.globalNamed "reckoner/fin.more" = some 1 := by kernel_rfl
theorem tMore : (Tryz.prog.globals[1]?).map (·.type) = some 232 := by kernel_rfl
theorem uMore : Tryz.prog.underlying 232 = some (.array 5 231) := by kernel_rfl
theorem cMore : Tryz.prog.cellsOf 231 = 1 := by kernel_rfl
theorem dataMet {P : Program} {l : List (String × DataW Unit)} {w : World} (h : laidMetH P l w) : laidMet P (l.filter fun x => x.2.handleName?.isNone) w := by
  unfold laidMetH at h
  split at h
  · rename_i hfl
    have e : (l.filter fun x => x.2.handleName?.isNone) = l := by
      rw [List.filter_eq_self]
      intro x hx
      have := (List.filter_eq_nil_iff.1 hfl) x hx
      cases hn : x.2.handleName? with
      | none => rfl
      | some s => rw [hn] at this; exact absurd rfl this
    rw [e]
    exact h
  · exact h.1
theorem glob_of_laid {W : World} (h : laidMetH Tryz.prog Rows.parseLongRow.laid W) : Glob W := by
  have h1 := dataMet h
  have hT : Lib.TabIs Tryz.prog W "math/bits.deBruijn64tab" .u8 (Lib.deBruijn64tab.map fun (n : Nat) => (n : Int)) := by
    exact Lib.tabIs_of_head (rest := _) gDe (show (Tryz.prog.globals[2]?).map (·.type) = some 249 by kernel_rfl) (show Tryz.prog.underlying 249 = some (.array 64 5) by kernel_rfl)
      (show Tryz.prog.underlying 5 = some (.int .u8) by kernel_rfl) (show Tryz.prog.cellsOf 5 = 1 by kernel_rfl) (show Tryz.prog.cellsOf 249 = 64 by kernel_rfl) h1
  intro j hj
  have := hT.cell gDe j (by simpa using hj)
  rw [this]
  simp [List.getD, hj]
theorem more_of_laid {W : World} (h : laidMetH Tryz.prog Rows.parseLongRow.laid W) : More W := by
  obtain ⟨g, t, cs, fuel, p, hg, ht, hv, hd⟩ := h.funcs (n := "reckoner/fin.more") (by
    show _ ∈ [_, _, _, _, _, (_, DataW.iface _ _), _, _]
    exact .tail _ (.tail _ (.tail _ (.tail _ (.tail _ (.head _))))))
  obtain rfl := Option.some.inj (gMore.symm.trans hg)
  obtain rfl := Option.some.inj (tMore.symm.trans ht)
  obtain ⟨xs, m, hf, hx, hl, hxs, hel⟩ := DataW.trod_array uMore hd
  have h0 := hel 0 (by decide)
  have hxe := (Prod.mk.inj hx).1
  have he0 : ((xs.map (·.1)))[0]? = some (.held [114, 101, 99, 107, 111, 110, 101, 114, 47, 102, 105, 110, 46, 109, 111, 114, 101, 36, 49]) := by
    rw [← DataW.agg.inj hxe]
    rfl
  rw [List.getElem?_map] at he0
  obtain ⟨y, hy, hy1⟩ := Option.map_eq_some_iff.1 he0
  have hc5 : Tryz.prog.cellsOf 232 = 5 := by kernel_rfl
  rw [hc5] at hl
  rw [hy, cMore] at h0
  obtain ⟨y1, y2⟩ := y
  obtain rfl : y1 = _ := hy1
  obtain ⟨v, l, hcs⟩ : ∃ v l, cs.toList = v :: l := by
    cases hc : cs.toList with
    | nil => rw [hc] at hl; simp at hl
    | cons v l => exact ⟨v, l, rfl⟩
  have h0' : DataW.trod (funcToken Tryz.prog) Tryz.prog W 0 (fun _ => true) true m 231 [v] = some (.held [114, 101, 99, 107, 111, 110, 101, 114, 47, 102, 105, 110, 46, 109, 111, 114, 101, 36, 49], y2) := by
    rw [hcs] at h0
    simpa using h0
  obtain rfl := func_of_trod (f0 := 339) (show Tryz.prog.underlying 231 = some (.func #[4, 4, 180] #[4] false) by kernel_rfl) (by kernel_rfl) h0'
  have hcell := World.var?_cell hg hv 0
  unfold More
  rw [hcell]
  have : cs[0]? = cs.toList[0]? := by simp
  rw [this, hcs]
  rfl
end Go.Proofs.YtkfpjhjmedodlaaGreatDoor

/- reckonerlaw24.ParseLong: the row's step. -/
set_option maxRecDepth 100000
namespace Go.Proofs.YtkfpjhjmedodlaaGreatDoor.parseLong
open Go.ChangeShapes Go.WideShapes Go.ChangeAt Go.RowKit Go.Joins
section
variable {H : Type} {enc : TypeId × Value → H} {P : Program}
/-- A law's answer at arguments that hold no memory: whatever new blocks the call has made, frozen or not. -/
theorem post_pure {f : Func} {s : ChangeSpec} {apart fresh handsOn again : Bool} {W W' : World} {args : Array Value} {v : Value} {ds gs : List (DataW H)}
    (hW : DataW.Whole enc P f.params.toList s.vars apart W args.toList ds gs [])
    (hres : ∀ (b : Nat) (sp : Nat → Bool) (hd : Bool), DataW.TrodAll enc P W' b sp hd f.resultTypes.toList (v.resultList f.resultTypes.size) (s.fn H (ds ++ gs)).results [])
    (hargs : ∀ sp : Nat → Bool, DataW.TrodAll enc P W' 0 sp true f.params.toList args.toList (s.fn H (ds ++ gs)).args [])
    (hvars : ∀ sp : Nat → Bool, DataW.TrodVars enc P W' sp s.vars (s.fn H (ds ++ gs)).vars [])
    (hk : W.keptBut W' (fun _ => False))
    (hok : ∀ (j : Nat) (t : TypeId) (r : Value), f.resultTypes[j]? = some t → (v.resultList f.resultTypes.size)[j]? = some r → Value.okWide P W' .any 0 t r) :
    s.post enc P f apart fresh handsOn again W args v W' := by
  refine ⟨ds, gs, [], [], [], [], hW, hres _ _ _, hargs _, hvars _, World.keptBut_mono (fun p hp => hp.elim) hk, fun _ => ?_⟩
  obtain ⟨_, _, _, _, _, hz, hn⟩ := hW
  refine ⟨hok, _, _, ([] ++ []) ++ [], ⟨[] ++ [], [], trodAll_append (hargs _) (hres _ _ _), hvars _, rfl, ?_, ?_⟩, ?_⟩
  · intro b off hp
    simp at hp
  · intro ha
    simp
  · intro p hp _
    simp at hp
end
theorem own : ownKnob Tryz.prog.godebug = none := by kernel_rfl
/-- WHAT THE WALKS GIVE, FOR EVERY ARGUMENT AND EVERY WORLD THAT HOLDS THE LISTED TABLES. -/
theorem contract (hP : ∀ w, Glob w → Wd.More w → Calls Tryz.prog 15 #[Wd.f511, .int .i64 0, .string ⟨#[48, 46, 49]⟩] w (PFloPost0 w))
    (H : Type) (enc : TypeId × Value → H) (W : World) (base : Nat) (args : Array Value) (ds gs : List (DataW H)) (before : List MemPlace)
    (hval : ∀ (j : Nat) t v, Tryz.f5.params[j]? = some t → args[j]? = some v → Value.okWide Tryz.prog W .any base t v)
    (hW : DataW.Whole enc Tryz.prog Tryz.f5.params.toList Rows.parseLongSpec.vars false W args.toList ds gs before) (hL : laidMetH Tryz.prog Rows.parseLongRow.laid W) :
    Calls Tryz.prog 5 args W fun e W' => ∃ v, e = .returned v ∧ Rows.parseLongSpec.post enc Tryz.prog Tryz.f5 false true false false W args v W' := by
  have hW' := hW
  obtain ⟨p, q, hA0, hV, rfl, hfz, hnd⟩ := hW
  have hA : DataW.TrodAll enc Tryz.prog W 0 (fun _ => true) true Tryz.f5.params.toList args.toList ds p := hA0
  rw [Tryz.params5] at hA hval
  obtain ⟨v0, vs0, d0, ds0, p0, q0, hargs, rfl, rfl, h0, r0⟩ := trodAll_cons hA
  obtain ⟨v1, vs1, d1, ds1, p1, q1, rfl, rfl, rfl, h1, r1⟩ := trodAll_cons r0
  obtain ⟨v2, vs2, d2, ds2, p2, q2, rfl, rfl, rfl, h2, r2⟩ := trodAll_cons r1
  obtain ⟨v3, vs3, d3, ds3, p3, q3, rfl, rfl, rfl, h3, r3⟩ := trodAll_cons r2
  obtain ⟨rfl, rfl, rfl⟩ := trodAll_nil r3
  obtain rfl : args = #[v0, v1, v2, v3] := by cases args; simp_all
  obtain ⟨rfl, rfl⟩ := trodVars_none hV
  obtain ⟨c0, c1, y0, y1, n0, rfl, rfl, rfl, t0, t1⟩ := open_agg2 Tryz.underlying42 (by kernel_rfl) (by kernel_rfl) (hval 0 _ v0 rfl rfl) h0
  obtain ⟨md, rfl, rfl, rfl, w1⟩ := open_int Tryz.underlying43 (hval 1 _ v1 rfl rfl) h1
  obtain ⟨e0, e1, e2, z0, z1, z2, n2, rfl, rfl, rfl, u0, u1, u2⟩ := open_agg3 Tryz.underlying56 (by kernel_rfl) (by kernel_rfl) (hval 2 _ v2 rfl rfl) h2
  obtain ⟨k, rfl, rfl, rfl, w3⟩ := open_int Tryz.underlying5 (hval 3 _ v3 rfl rfl) h3
  obtain ⟨fe, hc0, hy0, x0⟩ := DataW.trod_int Tryz.underlying3 t0
  obtain ⟨fp, hc1, hy1, x1⟩ := DataW.trod_int Tryz.underlying3 t1
  obtain ⟨ga, he0, hz0, s0⟩ := DataW.trod_int Tryz.underlying3 u0
  obtain ⟨gb, he1, hz1, s1⟩ := DataW.trod_int Tryz.underlying3 u1
  obtain ⟨gc, he2, hz2, s2⟩ := DataW.trod_int Tryz.underlying43 u2
  obtain rfl := (List.cons.inj hc0).1
  obtain rfl := (List.cons.inj hc1).1
  obtain rfl := (List.cons.inj he0).1
  obtain rfl := (List.cons.inj he1).1
  obtain rfl := (List.cons.inj he2).1
  subst hy0 hy1 hz0 hz1 hz2
  simp only [List.append_nil] at hW'
  clear hA0 r0 r1 r2 r3 hA
  have hk : 0 ≤ k ∧ k ≤ 255 := bounds_u8 w3
  obtain ⟨n, rfl⟩ : ∃ n : Nat, k = n := ⟨k.toNat, by omega⟩
  have walk := parseLong0 (fun w hG hM => awake0 hP w hG hM) W (glob_of_laid hL) (more_of_laid hL) fe fp md ga gb gc n (by omega)
  refine walk.mono fun e W' ⟨he, hb⟩ => ?_
  subst he
  refine ⟨_, rfl, post_pure hW' (fun _ _ _ => trodAll_cons_mk (shut_bool Tryz.underlying4 _) trodAll_mk0) (fun sp => ?_) (fun _ => rfl) (hb.frame _) (ok_one (by kernel_rfl) rfl (okWide_bool_mk Tryz.underlying4 _))⟩
  rw [Tryz.params5]
  have shutI : ∀ {x : Int}, (Lit.int .i64 x).wf = true → ∃ m, DataW.trod enc Tryz.prog W' 0 sp true m 3 [.int .i64 x] = some (.lit (.int .i64 x), []) := fun h => field_of_Trod (shut_int Tryz.underlying3 h) rfl
  have shutR : ∀ {x : Int}, (Lit.int .i64 x).wf = true → ∃ m, DataW.trod enc Tryz.prog W' 0 sp true m 43 [.int .i64 x] = some (.lit (.int .i64 x), []) := fun h => field_of_Trod (shut_int Tryz.underlying43 h) rfl
  exact trodAll_cons_mk (p := []) (shut_agg2 Tryz.underlying42 (by kernel_rfl) (by kernel_rfl) (shutI x0) (shutI x1)) (trodAll_cons_mk (p := []) (shut_int Tryz.underlying43 w1)
    (trodAll_cons_mk (p := []) (shut_agg3 Tryz.underlying56 (by kernel_rfl) (by kernel_rfl) (shutI s0) (shutI s1) (shutR s2)) (trodAll_cons_mk (p := []) (shut_int Tryz.underlying5 w3) trodAll_mk0)))
/-- A WORLD FOR THE WITNESS: the roundings' table by hand, all other listed variables by the function. -/
noncomputable def w0 (os : Os) : World :=
  { World.holding Tryz.prog os ⟨#[], #[], []⟩ with heap := (World.holding Tryz.prog os ⟨#[], #[], []⟩).heap.modify 1 fun
      | .cells _ t frozen => .cells #[.func (.func 339) #[] #[], .func (.func 340) #[] #[], .func (.func 341) #[] #[], .func (.func 342) #[] #[], .func (.func 343) #[] #[]] t frozen
      | o => o }
noncomputable def D : List (String × DataW Unit) := Rows.parseLongRow.laid.filter fun x => x.2.handleName?.isNone
noncomputable def laidWorld (os : Os) : World := (w0 os).layVars Tryz.prog D
theorem fits (os : Os) : (w0 os).layFits Tryz.prog D [] = true := by kernel_rfl
theorem ifaces (os : Os) : (w0 os).layIfaces Tryz.prog D (laidWorld os) = true := by kernel_rfl
theorem met (os : Os) : laidMet Tryz.prog D (laidWorld os) := by
  have e1 : (D.filter fun x => (D.map (·.1)).contains x.1) = D := List.filter_eq_self.2 fun x hx => List.contains_iff_mem.2 (List.mem_map.2 ⟨x, hx, rfl⟩)
  have e2 : (D.filter fun x => !(D.map (·.1)).contains x.1) = [] := List.filter_eq_nil_iff.2 fun x hx => by rw [List.contains_iff_mem.2 (List.mem_map.2 ⟨x, hx, rfl⟩)]; simp
  exact laidMet_layVars (w0 := w0 os) (D.map (·.1)) [] (by rw [e1]; rfl) (by rw [e1]; exact fits os) (by rw [e1]; exact ifaces os) (by rw [e2]; exact LaidIn.none)
theorem laid_met (os : Os) (args : Array Value) : laidMetH Tryz.prog Rows.parseLongRow.laid ((laidWorld os).forCall (fun _ _ => 0) ⟨#[], args, []⟩).memory :=
  laidMetH_of_parts3 (fuel := 8) ((met os).of_heap (by simp [World.memory, World.forCall, Input.heap])) (by kernel_rfl) (by kernel_rfl)
abbrev args0 : Array Value := #[.agg #[.int .i64 0, .int .i64 0], .int .i64 0, .agg #[.int .i64 0, .int .i64 0, .int .i64 0], .int .u8 0]
theorem reads (os : Os) {H : Type} (enc : TypeId × Value → H) : ∃ places, DataW.whole enc Tryz.prog ((laidWorld os).forCall (fun _ _ => 0) ⟨#[], args0, []⟩).memory Tryz.f5.params.toList Rows.parseLongSpec.vars false args0.toList 8 =
    some ([.agg [.lit (.int .i64 0), .lit (.int .i64 0)], .lit (.int .i64 0), .agg [.lit (.int .i64 0), .lit (.int .i64 0), .lit (.int .i64 0)], .lit (.int .u8 0)], [], places) :=
  ⟨[], by kernel_rfl⟩
theorem ok0 (os : Os) : Input.okWideB Tryz.prog ((laidWorld os).forCall (fun _ _ => 0) ⟨#[], args0, []⟩) 5 ⟨#[], args0, []⟩ = true := by kernel_rfl
theorem lifted (hP : ∀ w, Glob w → Wd.More w → Calls Tryz.prog 15 #[Wd.f511, .int .i64 0, .string ⟨#[48, 46, 49]⟩] w (PFloPost0 w)) (os : Os) (started : os.Started) (H : Type) (enc : TypeId × Value → H) (F : Stop.Interp) :
    ReturnsInHanded {} Tryz.checked os 5 .any ((OpenSpec.ofChange Rows.parseLongSpec).preRow enc Tryz.prog Tryz.f5 Rows.parseLongRow.domain false Rows.parseLongRow.laid) (((OpenSpec.ofChange Rows.parseLongSpec).at F).post enc Tryz.prog Tryz.f5 false true false false) := by
  obtain ⟨places, hx⟩ := reads os enc
  refine returnsInHanded_of_row (C := Tryz.checked) (s := OpenSpec.ofChange Rows.parseLongSpec) own started (by kernel_rfl) Tryz.func5
    ⟨laidWorld os, fun _ _ => 0, ⟨#[], args0, []⟩, World.layVars_os _ _ _, World.shaped_of_ZipB (by kernel_rfl) (by kernel_rfl), (Input.okWide_of_okWideB (base := 0) (ok0 os)).1, (Input.okWide_of_okWideB (ok0 os)).2,
      OpenSpec.preRow_of_cond 8 hx (by kernel_rfl) (fun k hk => by cases hk) (by kernel_rfl) (laid_met os _), by
        simp only [Assume.holds]
        exact ⟨by simp, by simp, fun _ => Modest.zero, by simp, by simp⟩⟩ ?_
  intro W base args ds gs before hval hW _ _ _ hL _ _
  exact contract hP H enc W base args ds gs before hval hW hL
end Go.Proofs.YtkfpjhjmedodlaaGreatDoor.parseLong
