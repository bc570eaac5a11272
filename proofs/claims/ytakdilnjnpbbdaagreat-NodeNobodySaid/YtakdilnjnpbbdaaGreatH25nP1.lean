import Derived.Test.YtakdilnjnpbbdaaGreatH25nP0
import Derived.Test.YtakdilnjnpbbdaaGreatAmG
import Derived.Test.YtakdilnjnpbbdaaGreatProg
set_option linter.unusedVariables false
set_option maxRecDepth 8000
namespace Go.Proofs
open Go.AM
attribute [local irreducible] loadK storeK hNil binK hUn hConv hFieldAddr hField hIndexAddr hIndex hExtract hAlloc hBox hMakeMap hMakeFunc hMakeSlice lenK capK hAppend hCopy hMin hMax hSlice hBuild hBuildSlice hLookup hMapUpdate hClear hNT hIs hL0 hLc hFn optK hPick hIf hG hRet appendK copyK
/-! 15 -/
noncomputable def H15_j4 (k : KV)  (a0_5 : Value) (h : Heap) (nx : Nat) : Bool :=
  hNil a0_5 fun v68_6 =>
  hFieldAddr Tryz.prog 43 v68_6 5 fun v69_7 =>
  loadK Tryz.prog 41 v69_7 h fun v70_8 =>
  hNil a0_5 fun v72_9 =>
  hFieldAddr Tryz.prog 43 v72_9 5 fun v73_10 =>
  storeK Tryz.prog 41 v73_10 (.slice none 0 0) h fun h11 =>
  k v70_8 h11 nx
noncomputable def H15_j21 (k : KV) (ih16 : Value → Value → Value → Heap → Nat → Bool) (a0_22 : Value) (a39_22 : Value) (a40_22 : Value) (h : Heap) (nx : Nat) : Bool :=
  binK Tryz.prog .add 3 (.tmp 40) (.const (.int .i64 (.ofNat 1))) a40_22 (.int .i64 (.ofNat 1)) fun v66_23 =>
  ih16 a0_22 a39_22 v66_23 h nx
noncomputable def H15_j37 (k : KV) (ih16 : Value → Value → Value → Heap → Nat → Bool) (a0_38 : Value) (a3_38 : Value) (a5_38 : Value) (a39_38 : Value) (a40_38 : Value) (h : Heap) (nx : Nat) : Bool :=
  loadK Tryz.prog 75 a5_38 h fun v64_39 =>
  H17 a0_38 a3_38 v64_39 h nx fun v65_40 h40 nx40 =>
  H15_j21 k ih16 a0_38 a39_38 a40_38 h40 nx40
noncomputable def H15_j19 (k : KV) (ih16 : Value → Value → Value → Heap → Nat → Bool) (a0_20 : Value) (a39_20 : Value) (a40_20 : Value) (h : Heap) (nx : Nat) : Bool :=
  hNil a0_20 fun v45_24 =>
  hFieldAddr Tryz.prog 43 v45_24 1 fun v46_25 =>
  loadK Tryz.prog 37 v46_25 h fun v47_26 =>
  hIndexAddr Tryz.prog 37 v47_26 a40_20 fun v49_27 =>
  loadK Tryz.prog 59 v49_27 h fun v50_28 =>
  H37 v50_28 h nx fun v51_29 h29 nx29 =>
  hExtract v51_29 0 fun v52_30 =>
  hExtract v51_29 1 fun v53_31 =>
  hExtract v51_29 2 fun v54_32 =>
  hAlloc Tryz.prog 59 h29 nx29 fun v4_33 h33 nx33 =>
  hAlloc Tryz.prog 75 h33 nx33 fun v5_34 h34 nx34 =>
  storeK Tryz.prog 59 v4_33 v52_30 h34 fun h35 =>
  storeK Tryz.prog 75 v5_34 v53_31 h35 fun h36 =>
  hNil a0_20 fun v56_42 =>
  hFieldAddr Tryz.prog 43 v56_42 1 fun v57_43 =>
  loadK Tryz.prog 37 v57_43 h36 fun v58_44 =>
  loadK Tryz.prog 59 v4_33 h36 fun v60_45 =>
  hIndexAddr Tryz.prog 37 v58_44 a40_20 fun v61_46 =>
  storeK Tryz.prog 59 v61_46 v60_45 h36 fun h47 =>
  H15_j37 k ih16 a0_20 a40_20 v5_34 a39_20 a40_20 h47 nx34
noncomputable def H15_l16 (k : KV)  (n : Nat) : Value → Value → Value → Heap → Nat → Bool :=
  Nat.rec (motive := fun _ => Value → Value → Value → Heap → Nat → Bool) (fun _ _ _ _ _ => false) (fun _ ih16 a0_17 a39_17 a40_17 h nx => binK Tryz.prog .lss 3 (.tmp 40) (.tmp 39) a40_17 a39_17 fun v41_18 =>
  hIf v41_18 (fun _ => H15_j19 k ih16 a0_17 a39_17 a40_17 h nx) (fun _ => H15_j4 k  a0_17 h nx)) n
noncomputable def H15_j2 (k : KV)  (a0_3 : Value) (h : Heap) (nx : Nat) : Bool :=
  hNil a0_3 fun v36_12 =>
  hFieldAddr Tryz.prog 43 v36_12 1 fun v37_13 =>
  loadK Tryz.prog 37 v37_13 h fun v38_14 =>
  lenK Tryz.prog 37 v38_14 h fun v39_15 =>
  H15_l16 k  200000 a0_3 v39_15 (.int .i64 (.ofNat 0)) h nx
noncomputable def H15_g53 (k : KV)  (a0 : Value) (v15_52 : Value) (o17_54 : Option Value) (o18_54 : Option Value) (o19_54 : Option Value) (o20_54 : Option Value) (o21_54 : Option Value) (h : Heap) (nx : Nat) : Bool :=
  hPick v15_52 o21_54 (some (.bool false)) fun v22_55 =>
  hIf v22_55 (fun _ => false) (fun _ => H15_j2 k  a0 h nx)
noncomputable def H15 (a0 : Value) (h : Heap) (nx : Nat) (k : KV) : Bool :=
  H22 a0 h nx fun v9_1 h1 nx1 =>
  hNil a0 fun v11_48 =>
  hFieldAddr Tryz.prog 43 v11_48 0 fun v12_49 =>
  hFieldAddr Tryz.prog 36 v12_49 10 fun v13_50 =>
  loadK Tryz.prog 4 v13_50 h1 fun v14_51 =>
  hUn Tryz.prog .not v14_51 fun v15_52 =>
  hG (some v15_52) true (fun _ => hNil a0 fun v18_56 =>
  hFieldAddr Tryz.prog 43 v18_56 1 fun v19_57 =>
  loadK Tryz.prog 37 v19_57 h1 fun v20_58 =>
  H35 v20_58 (.func (.func 36) ⟨[]⟩ ⟨[]⟩) h1 nx1 fun v21_59 h59 nx59 =>
  H15_g53 k  a0 v15_52 (some a0) (some v18_56) (some v19_57) (some v20_58) (some v21_59) h59 nx59) (fun _ => H15_g53 k  a0 v15_52 none none none none none h1 nx1)
theorem sim15 {a0 : Value} {h : Heap} {nx : Nat} {k : KV} (H : H15 a0 h nx k = true) : ∃ v h' nx', k v h' nx' = true ∧ CallSim Tryz.prog 15 [a0] h nx v h' nx' := by
  refine fn_rule Tryz.func15 rfl rfl ?_
  refine CJ.seq ?_
  refine CJ.region ?_
  refine OJ.mv rfl rfl rfl (r_assign rfl rfl) ?_
  refine OJ.fin ?_
  refine CJ.seq ?_
  refine CJ.region ?_
  refine OJ.mv rfl rfl rfl (r_move rfl rfl) ?_
  refine OJ.fu rfl rfl rfl (r_call (args := [a0]) rfl rfl rfl (And.intro rfl True.intro) Tryz.call22 (sim22 H)) ?_
  intro v9_1 h1 nx1 H
  refine OJ.fin ?_
  refine CJ.seq (CJ.cut (X := Value × Unit) (fun x h nx => H15_j2 k  x.1 h nx) (fun x => [(0, some x.1)]) ?_ ?_)
  · refine CJ.seq ?_
    refine CJ.region ?_
    refine OJ.mv rfl rfl rfl (r_move rfl rfl) ?_
    refine OJ.rd rfl rfl rfl (r_nil rfl rfl H) ?_
    intro v11_48 H
    refine OJ.rd rfl rfl rfl (r_fieldAddr rfl rfl H) ?_
    intro v12_49 H
    refine OJ.rd rfl rfl rfl (r_fieldAddr rfl rfl H) ?_
    intro v13_50 H
    refine OJ.rd rfl rfl rfl (r_load rfl rfl H) ?_
    intro v14_51 H
    refine OJ.rd rfl rfl rfl (r_un rfl rfl H) ?_
    intro v15_52 H
    refine OJ.mv rfl rfl rfl (r_move rfl rfl) ?_
    refine OJ.cut (X := Option Value × Option Value × Option Value × Option Value × Option Value × Unit) 5 (fun x h nx => H15_g53 k  a0 v15_52 x.1 x.2.1 x.2.2.1 x.2.2.2.1 x.2.2.2.2.1 h nx) (fun x => [(17, x.1), (18, x.2.1), (19, x.2.2.1), (20, x.2.2.2.1), (21, x.2.2.2.2.1), (0, (some a0)), (16, (some v15_52))]) ?_ (fun next => ?_)
    · intro ⟨o17_54, o18_54, o19_54, o20_54, o21_54, _u⟩ h nx H
      refine OJ.rd rfl rfl rfl (r_pick rfl rfl rfl rfl H) ?_
      intro v22_55 H
      refine OJ.fin ?_
      refine CJ.ite rfl H (fun H => ?_) (fun H => ?_)
      · cases H
      · exact CJ.skip [(0, (some a0))] (And.intro rfl True.intro) (Exists.intro (a0, ()) (And.intro rfl H))
    · rcases hG_true H with ⟨g, H⟩ | ⟨g, H⟩
      · refine OJ.gmv rfl rfl rfl g rfl rfl (r_move rfl rfl) ?_
        refine OJ.grd rfl rfl rfl g rfl rfl (r_nil rfl rfl H) ?_
        intro v18_56 H
        refine OJ.grd rfl rfl rfl g rfl rfl (r_fieldAddr rfl rfl H) ?_
        intro v19_57 H
        refine OJ.grd rfl rfl rfl g rfl rfl (r_load rfl rfl H) ?_
        intro v20_58 H
        refine OJ.gfu rfl rfl rfl g rfl rfl (r_call (args := [v20_58, (.func (.func 36) ⟨[]⟩ ⟨[]⟩)]) rfl rfl rfl (And.intro rfl (And.intro rfl True.intro)) Tryz.call35 (sim35 H)) ?_
        intro v21_59 h59 nx59 H
        exact OJ.weaken [(17, (some a0)), (18, (some v18_56)), (19, (some v19_57)), (20, (some v20_58)), (21, (some v21_59)), (0, (some a0)), (16, (some v15_52))] (And.intro rfl (And.intro rfl (And.intro rfl (And.intro rfl (And.intro rfl (And.intro rfl (And.intro rfl True.intro))))))) (next ((some a0), (some v18_56), (some v19_57), (some v20_58), (some v21_59), ()) _ _ H)
      · refine OJ.no rfl rfl rfl g rfl rfl ?_
        refine OJ.no rfl rfl rfl g rfl rfl ?_
        refine OJ.no rfl rfl rfl g rfl rfl ?_
        refine OJ.no rfl rfl rfl g rfl rfl ?_
        refine OJ.no rfl rfl rfl g rfl rfl ?_
        exact OJ.weaken [(17, none), (18, none), (19, none), (20, none), (21, none), (0, (some a0)), (16, (some v15_52))] (And.intro rfl (And.intro rfl (And.intro rfl (And.intro rfl (And.intro rfl (And.intro rfl (And.intro rfl True.intro))))))) (next (none, none, none, none, none, ()) _ _ H)
  · intro ⟨a0_3, _u⟩ h nx H
    refine CJ.seq (CJ.cut (X := Value × Unit) (fun x h nx => H15_j4 k  x.1 h nx) (fun x => [(0, some x.1)]) ?_ ?_)
    · refine CJ.seq ?_
      refine CJ.region ?_
      refine OJ.mv rfl rfl rfl (r_move rfl rfl) ?_
      refine OJ.rd rfl rfl rfl (r_nil rfl rfl H) ?_
      intro v36_12 H
      refine OJ.rd rfl rfl rfl (r_fieldAddr rfl rfl H) ?_
      intro v37_13 H
      refine OJ.rd rfl rfl rfl (r_load rfl rfl H) ?_
      intro v38_14 H
      refine OJ.rd rfl rfl rfl (r_len (x := default) rfl rfl (And.intro rfl True.intro) rfl H) ?_
      intro v39_15 H
      refine OJ.mv rfl rfl rfl (r_move rfl rfl) ?_
      refine OJ.fin ?_
      refine CJ.block ?_
      refine CJ.weaken [(0, (some a0_3)), (39, (some v39_15)), (40, (some (.int .i64 (.ofNat 0))))] (And.intro rfl (And.intro rfl (And.intro rfl True.intro))) ?_
      refine CJ.loop_ind (X := Value × Value × Value × Unit) (fun n x h nx => H15_l16 k  n x.1 x.2.1 x.2.2.1 h nx) (fun x => [(0, some x.1), (39, some x.2.1), (40, some x.2.2.1)]) (fun _ _ _ => rfl) ?_ 200000 (a0_3, v39_15, (.int .i64 (.ofNat 0)), ()) _ _ H
      intro ih16n ih16p ⟨a0_17, a39_17, a40_17, _u⟩ h nx H
      let ih16 := H15_l16 k  ih16n
      refine CJ.seq ?_
      refine CJ.region ?_
      refine OJ.rd rfl rfl rfl (r_bin rfl rfl rfl H) ?_
      intro v41_18 H
      refine OJ.fin ?_
      refine CJ.seq (CJ.cut (X := Value × Value × Value × Unit) (fun x h nx => H15_j19 k ih16 x.1 x.2.1 x.2.2.1 h nx) (fun x => [(0, some x.1), (39, some x.2.1), (40, some x.2.2.1)]) ?_ ?_)
      · refine CJ.ite rfl H (fun H => ?_) (fun H => ?_)
        · exact CJ.skip [(0, (some a0_17)), (39, (some a39_17)), (40, (some a40_17))] (And.intro rfl (And.intro rfl (And.intro rfl True.intro))) (Exists.intro (a0_17, a39_17, a40_17, ()) (And.intro rfl H))
        · exact CJ.exit [(0, (some a0_17))] (And.intro rfl True.intro) (Exists.intro (a0_17, ()) (And.intro rfl H))
      · intro ⟨a0_20, a39_20, a40_20, _u⟩ h nx H
        refine CJ.seq (CJ.cut (X := Value × Value × Value × Unit) (fun x h nx => H15_j21 k ih16 x.1 x.2.1 x.2.2.1 h nx) (fun x => [(0, some x.1), (39, some x.2.1), (40, some x.2.2.1)]) ?_ ?_)
        · refine CJ.block ?_
          refine CJ.seq ?_
          refine CJ.region ?_
          refine OJ.mv rfl rfl rfl (r_move rfl rfl) ?_
          refine OJ.mv rfl rfl rfl (r_assign rfl rfl) ?_
          refine OJ.fin ?_
          refine CJ.seq ?_
          refine CJ.region ?_
          refine OJ.mv rfl rfl rfl (r_move rfl rfl) ?_
          refine OJ.rd rfl rfl rfl (r_nil rfl rfl H) ?_
          intro v45_24 H
          refine OJ.rd rfl rfl rfl (r_fieldAddr rfl rfl H) ?_
          intro v46_25 H
          refine OJ.rd rfl rfl rfl (r_load rfl rfl H) ?_
          intro v47_26 H
          refine OJ.mv rfl rfl rfl (r_move rfl rfl) ?_
          refine OJ.rd rfl rfl rfl (r_indexAddr rfl rfl rfl H) ?_
          intro v49_27 H
          refine OJ.rd rfl rfl rfl (r_load rfl rfl H) ?_
          intro v50_28 H
          refine OJ.fu rfl rfl rfl (r_call (args := [v50_28]) rfl rfl rfl (And.intro rfl True.intro) Tryz.call37 (sim37 H)) ?_
          intro v51_29 h29 nx29 H
          refine OJ.mv rfl rfl rfl (r_move rfl rfl) ?_
          refine OJ.rd rfl rfl rfl (r_extract rfl rfl H) ?_
          intro v52_30 H
          refine OJ.rd rfl rfl rfl (r_extract rfl rfl H) ?_
          intro v53_31 H
          refine OJ.rd rfl rfl rfl (r_extract rfl rfl H) ?_
          intro v54_32 H
          refine OJ.fu rfl rfl rfl (r_alloc1 rfl H) ?_
          intro v4_33 h33 nx33 H
          refine OJ.fu rfl rfl rfl (r_alloc1 rfl H) ?_
          intro v5_34 h34 nx34 H
          refine OJ.wr rfl rfl (r_store rfl rfl rfl H) ?_
          intro h35 H
          refine OJ.wr rfl rfl (r_store rfl rfl rfl H) ?_
          intro h36 H
          refine OJ.mv rfl rfl rfl (r_assign rfl rfl) ?_
          refine OJ.fin ?_
          refine CJ.seq (CJ.cut (X := Value × Value × Value × Value × Value × Unit) (fun x h nx => H15_j37 k ih16 x.1 x.2.1 x.2.2.1 x.2.2.2.1 x.2.2.2.2.1 h nx) (fun x => [(0, some x.1), (3, some x.2.1), (5, some x.2.2.1), (39, some x.2.2.2.1), (40, some x.2.2.2.2.1)]) ?_ ?_)
          · refine DJ.hm [0, 1, 3, 7, 0, 0, 63, 127] (by decide +kernel) ?_
            intro hm41
            refine DJ.mv 0 [(0, (some a0_20))] (a_move rfl rfl) ?_
            intro S41_0
            refine DJ.any 1 [(55, (some a0_20))] (a_nil rfl rfl H) ?_
            intro v56_42 H S41_1
            refine DJ.any 2 [(56, (some v56_42))] (a_fieldAddr rfl rfl H) ?_
            intro v57_43 H S41_2
            refine DJ.rd 3 [(57, (some v57_43))] h36 nx34 (r_load rfl rfl H) ?_
            intro v58_44 H S41_3
            refine DJ.mv 4 [(3, (some a40_20))] (a_move rfl rfl) ?_
            intro S41_4
            refine DJ.rd 5 [(4, (some v4_33))] h36 nx34 (r_load rfl rfl H) ?_
            intro v60_45 H S41_5
            refine DJ.any 6 [(58, (some v58_44)), (59, (some a40_20))] (a_indexAddr rfl rfl rfl H) ?_
            intro v61_46 H S41_6
            refine DJ.wr 7 [(60, (some v60_45)), (61, (some v61_46))] h36 nx34 (r_store rfl rfl rfl H) ?_
            intro h47 H S41_7
            have I41_7 := S41_7.1
            exact CJ.draw1 [(some a0_20), (some v56_42), (some v57_43), (some v58_44), (some a40_20), (some v60_45), (some v61_46), none] [7] [(h36, nx34), (h47, nx34)] [] [0, 1, 2, 3, 4, 5, 6, 7] [0, 1, 2, 3, 4, 5, 6, 7] [0, 1, 2, 3, 4, 5, 6, 7] (by decide +kernel) (And.intro (F_any (Ti := [(0, (some a0_20))]) hm41 [(0, none)] (by decide +kernel) (And.intro rfl (And.intro rfl True.intro)) (guard_no rfl) rfl rfl S41_0) (And.intro (F_any (Ti := [(55, (some a0_20))]) hm41 [(55, some 0)] (by decide +kernel) (And.intro rfl (And.intro rfl True.intro)) (guard_no rfl) rfl rfl S41_1) (And.intro (F_any (Ti := [(56, (some v56_42))]) hm41 [(56, some 1)] (by decide +kernel) (And.intro rfl (And.intro rfl True.intro)) (guard_no rfl) rfl rfl S41_2) (And.intro (F_read (Ti := [(57, (some v57_43))]) hm41 [(57, some 2)] (by decide +kernel) (And.intro rfl (And.intro rfl True.intro)) (guard_no rfl) rfl rfl 0 1 (by decide +kernel) (And.intro S41_3 True.intro)) (And.intro (F_any (Ti := [(3, (some a40_20))]) hm41 [(3, none)] (by decide +kernel) (And.intro rfl (And.intro rfl True.intro)) (guard_no rfl) rfl rfl S41_4) (And.intro (F_read (Ti := [(4, (some v4_33))]) hm41 [(4, none)] (by decide +kernel) (And.intro rfl (And.intro rfl True.intro)) (guard_no rfl) rfl rfl 0 1 (by decide +kernel) (And.intro S41_5 True.intro)) (And.intro (F_any (Ti := [(58, (some v58_44)), (59, (some a40_20))]) hm41 [(58, some 3), (59, some 4)] (by decide +kernel) (And.intro rfl (And.intro rfl (And.intro rfl (And.intro rfl True.intro)))) (guard_no rfl) rfl rfl S41_6) (And.intro (F_eff (Ti := [(60, (some v60_45)), (61, (some v61_46))]) hm41 [(60, some 5), (61, some 6)] (by decide +kernel) (And.intro rfl (And.intro rfl (And.intro rfl (And.intro rfl True.intro)))) (guard_no rfl) rfl 0 rfl (by decide +kernel) S41_7 (Grow.refl _ _) (show nx34 ≤ nx34 by omega) True.intro) True.intro)))))))) rfl (And.intro (by omega) (And.intro (by omega) True.intro)) True.intro (Grow.refl _ _) [(0, none), (3, none), (5, none), (39, none), (40, none)] [(0, (some a0_20)), (3, (some a40_20)), (5, (some v5_34)), (39, (some a39_20)), (40, (some a40_20))] (by decide +kernel) (And.intro rfl (And.intro rfl (And.intro rfl (And.intro rfl (And.intro rfl (And.intro rfl (And.intro rfl (And.intro rfl (And.intro rfl (And.intro rfl True.intro)))))))))) rfl (Exists.intro (a0_20, a40_20, v5_34, a39_20, a40_20, ()) (And.intro rfl H))
          · intro ⟨a0_38, a3_38, a5_38, a39_38, a40_38, _u⟩ h nx H
            refine CJ.region ?_
            refine OJ.mv rfl rfl rfl (r_move rfl rfl) ?_
            refine OJ.mv rfl rfl rfl (r_move rfl rfl) ?_
            refine OJ.rd rfl rfl rfl (r_load rfl rfl H) ?_
            intro v64_39 H
            refine OJ.fu rfl rfl rfl (r_call (args := [a0_38, a3_38, v64_39]) rfl rfl rfl (And.intro rfl (And.intro rfl (And.intro rfl True.intro))) Tryz.call17 (sim17 H)) ?_
            intro v65_40 h40 nx40 H
            exact OJ.done [(0, (some a0_38)), (39, (some a39_38)), (40, (some a40_38))] (And.intro rfl (And.intro rfl (And.intro rfl True.intro))) (Exists.intro (a0_38, a39_38, a40_38, ()) (And.intro rfl H))
        · intro ⟨a0_22, a39_22, a40_22, _u⟩ h nx H
          refine CJ.region ?_
          refine OJ.rd rfl rfl rfl (r_bin rfl rfl rfl H) ?_
          intro v66_23 H
          refine OJ.mv rfl rfl rfl (r_move rfl rfl) ?_
          exact OJ.done [(0, (some a0_22)), (39, (some a39_22)), (40, (some v66_23))] (And.intro rfl (And.intro rfl (And.intro rfl True.intro))) (ih16p (a0_22, a39_22, v66_23, ()) _ _ H)
    · intro ⟨a0_5, _u⟩ h nx H
      refine CJ.seq ?_
      refine CJ.region ?_
      refine OJ.mv rfl rfl rfl (r_move rfl rfl) ?_
      refine OJ.rd rfl rfl rfl (r_nil rfl rfl H) ?_
      intro v68_6 H
      refine OJ.rd rfl rfl rfl (r_fieldAddr rfl rfl H) ?_
      intro v69_7 H
      refine OJ.rd rfl rfl rfl (r_load rfl rfl H) ?_
      intro v70_8 H
      refine OJ.mv rfl rfl rfl (r_assign rfl rfl) ?_
      refine OJ.fin ?_
      refine CJ.seq ?_
      refine CJ.region ?_
      refine OJ.mv rfl rfl rfl (r_move rfl rfl) ?_
      refine OJ.rd rfl rfl rfl (r_nil rfl rfl H) ?_
      intro v72_9 H
      refine OJ.rd rfl rfl rfl (r_fieldAddr rfl rfl H) ?_
      intro v73_10 H
      refine OJ.wr rfl rfl (r_store rfl rfl rfl H) ?_
      intro h11 H
      refine OJ.fin ?_
      refine CJ.seq ?_
      refine CJ.region ?_
      refine OJ.mv rfl rfl rfl (r_move rfl rfl) ?_
      refine OJ.mv rfl rfl rfl (r_assign rfl rfl) ?_
      refine OJ.fin ?_
      refine CJ.ret1 ?_
      exact ret_one (Or.inr rfl) rfl rfl H

/-! 4 -/
noncomputable def H4_j17 (k : KV)   (h : Heap) (nx : Nat) : Bool :=
  false
noncomputable def H4_j20 (k : KV)  (a0_21 : Value) (h : Heap) (nx : Nat) : Bool :=
  H15 a0_21 h nx fun v60_22 h22 nx22 =>
  hRet [v60_22, (.int .i64 (.ofNat 0))] h22 nx22 k
noncomputable def H4_j12 (k : KV)  (a0_13 : Value) (a1_13 : Value) (a8_13 : Value) (h : Heap) (nx : Nat) : Bool :=
  H13 a0_13 a1_13 h nx fun v43_14 h14 nx14 =>
  hExtract v43_14 0 fun v44_15 =>
  hExtract v43_14 1 fun v45_16 =>
  hUn Tryz.prog .not v45_16 fun v47_19 =>
  hIf v47_19 (fun _ => hNil a0_13 fun v50_24 =>
  hFieldAddr Tryz.prog 43 v50_24 1 fun v51_25 =>
  loadK Tryz.prog 37 v51_25 h14 fun v52_26 =>
  loadK Tryz.prog 59 a8_13 h14 fun v54_27 =>
  hBuildSlice Tryz.prog 37 1 [(0, v54_27)] h14 nx14 fun v55_28 h28 nx28 =>
  loadK Tryz.prog 37 v51_25 h28 fun v52_30 =>
  hEq v52_30 v52_26 fun _ => H14 v52_26 v44_15 v55_28 h28 nx28 fun v56_31 h31 nx31 =>
  hNil a0_13 fun v57_32 =>
  hFieldAddr Tryz.prog 43 v57_32 1 fun v58_33 =>
  storeK Tryz.prog 37 v58_33 v56_31 h31 fun h34 =>
  H4_j20 k  a0_13 h34 nx31) (fun _ => false)
noncomputable def H4_j1 (k : KV)  (a0_2 : Value) (a1_2 : Value) (a2_2 : Value) (h : Heap) (nx : Nat) : Bool :=
  hNil a0_2 fun v31_3 =>
  hFieldAddr Tryz.prog 43 v31_3 2 fun v32_4 =>
  hFieldAddr Tryz.prog 39 v32_4 1 fun v33_5 =>
  loadK Tryz.prog 3 v33_5 h fun v34_6 =>
  H12 a1_2 a2_2 v34_6 h nx fun v35_7 h7 nx7 =>
  hExtract v35_7 0 fun v36_8 =>
  hExtract v35_7 1 fun v37_9 =>
  hAlloc Tryz.prog 59 h7 nx7 fun v8_10 h10 nx10 =>
  storeK Tryz.prog 59 v8_10 v36_8 h10 fun h11 =>
  binK Tryz.prog .neq 44 (.tmp 38) (.const (.int .i64 (.ofNat 0))) v37_9 (.int .i64 (.ofNat 0)) fun v39_35 =>
  hIf v39_35 (fun _ => false) (fun _ => H4_j12 k  a0_2 a1_2 v8_10 h11 nx10)
noncomputable def H4_g38 (k : KV)  (a0 : Value) (a1 : Value) (a2 : Value) (v17_37 : Value) (o19_39 : Option Value) (o20_39 : Option Value) (o21_39 : Option Value) (o22_39 : Option Value) (o23_39 : Option Value) (o24_39 : Option Value) (o25_39 : Option Value) (h : Heap) (nx : Nat) : Bool :=
  hPick v17_37 (some (.bool true)) o25_39 fun v26_40 =>
  hIf v26_40 (fun _ => hRet [(.slice none 0 0), (.int .i64 (.ofNat 1))] h nx k) (fun _ => H4_j1 k  a0 a1 a2 h nx)
noncomputable def H4 (a0 : Value) (a1 : Value) (a2 : Value) (h : Heap) (nx : Nat) (k : KV) : Bool :=
  H11 a0 h nx fun v16_36 h36 nx36 =>
  hUn Tryz.prog .not v16_36 fun v17_37 =>
  hG (some v17_37) false (fun _ => hNil a0 fun v21_41 =>
  hFieldAddr Tryz.prog 43 v21_41 0 fun v22_42 =>
  hFieldAddr Tryz.prog 36 v22_42 0 fun v23_43 =>
  loadK Tryz.prog 3 v23_43 h36 fun v24_44 =>
  binK Tryz.prog .eql 3 (.tmp 19) (.tmp 24) a1 v24_44 fun v25_45 =>
  H4_g38 k  a0 a1 a2 v17_37 (some a1) (some a0) (some v21_41) (some v22_42) (some v23_43) (some v24_44) (some v25_45) h36 nx36) (fun _ => H4_g38 k  a0 a1 a2 v17_37 none none none none none none none h36 nx36)
theorem sim4 {a0 a1 a2 : Value} {h : Heap} {nx : Nat} {k : KV} (H : H4 a0 a1 a2 h nx k = true) : ∃ v h' nx', k v h' nx' = true ∧ CallSim Tryz.prog 4 [a0, a1, a2] h nx v h' nx' := by
  refine fn_rule Tryz.func4 rfl rfl ?_
  refine CJ.seq ?_
  refine CJ.region ?_
  refine OJ.mv rfl rfl rfl (r_assign rfl rfl) ?_
  refine OJ.mv rfl rfl rfl (r_assign rfl rfl) ?_
  refine OJ.fin ?_
  refine CJ.seq (CJ.cut (X := Value × Value × Value × Unit) (fun x h nx => H4_j1 k  x.1 x.2.1 x.2.2.1 h nx) (fun x => [(0, some x.1), (1, some x.2.1), (2, some x.2.2.1)]) ?_ ?_)
  · refine CJ.seq ?_
    refine CJ.region ?_
    refine OJ.mv rfl rfl rfl (r_move rfl rfl) ?_
    refine OJ.fu rfl rfl rfl (r_call (args := [a0]) rfl rfl rfl (And.intro rfl True.intro) Tryz.call11 (sim11 H)) ?_
    intro v16_36 h36 nx36 H
    refine OJ.rd rfl rfl rfl (r_un rfl rfl H) ?_
    intro v17_37 H
    refine OJ.mv rfl rfl rfl (r_move rfl rfl) ?_
    refine OJ.cut (X := Option Value × Option Value × Option Value × Option Value × Option Value × Option Value × Option Value × Unit) 7 (fun x h nx => H4_g38 k  a0 a1 a2 v17_37 x.1 x.2.1 x.2.2.1 x.2.2.2.1 x.2.2.2.2.1 x.2.2.2.2.2.1 x.2.2.2.2.2.2.1 h nx) (fun x => [(19, x.1), (20, x.2.1), (21, x.2.2.1), (22, x.2.2.2.1), (23, x.2.2.2.2.1), (24, x.2.2.2.2.2.1), (25, x.2.2.2.2.2.2.1), (0, (some a0)), (1, (some a1)), (2, (some a2)), (18, (some v17_37))]) ?_ (fun next => ?_)
    · intro ⟨o19_39, o20_39, o21_39, o22_39, o23_39, o24_39, o25_39, _u⟩ h nx H
      refine OJ.rd rfl rfl rfl (r_pick rfl rfl rfl rfl H) ?_
      intro v26_40 H
      refine OJ.fin ?_
      refine CJ.ite rfl H (fun H => ?_) (fun H => ?_)
      · refine CJ.seq ?_
        refine CJ.region ?_
        refine OJ.mv rfl rfl rfl (r_assign rfl rfl) ?_
        refine OJ.mv rfl rfl rfl (r_assign rfl rfl) ?_
        refine OJ.fin ?_
        refine CJ.ret1 ?_
        exact ret_many (vs := [(.slice none 0 0), (.int .i64 (.ofNat 1))]) [6, 7] (Or.inr rfl) rfl (And.intro rfl (And.intro rfl True.intro)) H
      · exact CJ.skip [(0, (some a0)), (1, (some a1)), (2, (some a2))] (And.intro rfl (And.intro rfl (And.intro rfl True.intro))) (Exists.intro (a0, a1, a2, ()) (And.intro rfl H))
    · rcases hG_true H with ⟨g, H⟩ | ⟨g, H⟩
      · refine OJ.gmv rfl rfl rfl g rfl rfl (r_move rfl rfl) ?_
        refine OJ.gmv rfl rfl rfl g rfl rfl (r_move rfl rfl) ?_
        refine OJ.grd rfl rfl rfl g rfl rfl (r_nil rfl rfl H) ?_
        intro v21_41 H
        refine OJ.grd rfl rfl rfl g rfl rfl (r_fieldAddr rfl rfl H) ?_
        intro v22_42 H
        refine OJ.grd rfl rfl rfl g rfl rfl (r_fieldAddr rfl rfl H) ?_
        intro v23_43 H
        refine OJ.grd rfl rfl rfl g rfl rfl (r_load rfl rfl H) ?_
        intro v24_44 H
        refine OJ.grd rfl rfl rfl g rfl rfl (r_bin rfl rfl rfl H) ?_
        intro v25_45 H
        exact OJ.weaken [(19, (some a1)), (20, (some a0)), (21, (some v21_41)), (22, (some v22_42)), (23, (some v23_43)), (24, (some v24_44)), (25, (some v25_45)), (0, (some a0)), (1, (some a1)), (2, (some a2)), (18, (some v17_37))] (And.intro rfl (And.intro rfl (And.intro rfl (And.intro rfl (And.intro rfl (And.intro rfl (And.intro rfl (And.intro rfl (And.intro rfl (And.intro rfl (And.intro rfl True.intro))))))))))) (next ((some a1), (some a0), (some v21_41), (some v22_42), (some v23_43), (some v24_44), (some v25_45), ()) _ _ H)
      · refine OJ.no rfl rfl rfl g rfl rfl ?_
        refine OJ.no rfl rfl rfl g rfl rfl ?_
        refine OJ.no rfl rfl rfl g rfl rfl ?_
        refine OJ.no rfl rfl rfl g rfl rfl ?_
        refine OJ.no rfl rfl rfl g rfl rfl ?_
        refine OJ.no rfl rfl rfl g rfl rfl ?_
        refine OJ.no rfl rfl rfl g rfl rfl ?_
        exact OJ.weaken [(19, none), (20, none), (21, none), (22, none), (23, none), (24, none), (25, none), (0, (some a0)), (1, (some a1)), (2, (some a2)), (18, (some v17_37))] (And.intro rfl (And.intro rfl (And.intro rfl (And.intro rfl (And.intro rfl (And.intro rfl (And.intro rfl (And.intro rfl (And.intro rfl (And.intro rfl (And.intro rfl True.intro))))))))))) (next (none, none, none, none, none, none, none, ()) _ _ H)
  · intro ⟨a0_2, a1_2, a2_2, _u⟩ h nx H
    refine CJ.seq ?_
    refine CJ.region ?_
    refine OJ.mv rfl rfl rfl (r_move rfl rfl) ?_
    refine OJ.mv rfl rfl rfl (r_move rfl rfl) ?_
    refine OJ.mv rfl rfl rfl (r_move rfl rfl) ?_
    refine OJ.rd rfl rfl rfl (r_nil rfl rfl H) ?_
    intro v31_3 H
    refine OJ.rd rfl rfl rfl (r_fieldAddr rfl rfl H) ?_
    intro v32_4 H
    refine OJ.rd rfl rfl rfl (r_fieldAddr rfl rfl H) ?_
    intro v33_5 H
    refine OJ.rd rfl rfl rfl (r_load rfl rfl H) ?_
    intro v34_6 H
    refine OJ.fu rfl rfl rfl (r_call (args := [a1_2, a2_2, v34_6]) rfl rfl rfl (And.intro rfl (And.intro rfl (And.intro rfl True.intro))) Tryz.call12 (sim12 H)) ?_
    intro v35_7 h7 nx7 H
    refine OJ.mv rfl rfl rfl (r_move rfl rfl) ?_
    refine OJ.rd rfl rfl rfl (r_extract rfl rfl H) ?_
    intro v36_8 H
    refine OJ.rd rfl rfl rfl (r_extract rfl rfl H) ?_
    intro v37_9 H
    refine OJ.fu rfl rfl rfl (r_alloc1 rfl H) ?_
    intro v8_10 h10 nx10 H
    refine OJ.wr rfl rfl (r_store rfl rfl rfl H) ?_
    intro h11 H
    refine OJ.mv rfl rfl rfl (r_assign rfl rfl) ?_
    refine OJ.fin ?_
    refine CJ.seq (CJ.cut (X := Value × Value × Value × Unit) (fun x h nx => H4_j12 k  x.1 x.2.1 x.2.2.1 h nx) (fun x => [(0, some x.1), (1, some x.2.1), (8, some x.2.2.1)]) ?_ ?_)
    · refine CJ.seq ?_
      refine CJ.region ?_
      refine OJ.mv rfl rfl rfl (r_move rfl rfl) ?_
      refine OJ.rd rfl rfl rfl (r_bin rfl rfl rfl H) ?_
      intro v39_35 H
      refine OJ.fin ?_
      refine CJ.ite rfl H (fun H => ?_) (fun H => ?_)
      · cases H
      · exact CJ.skip [(0, (some a0_2)), (1, (some a1_2)), (8, (some v8_10))] (And.intro rfl (And.intro rfl (And.intro rfl True.intro))) (Exists.intro (a0_2, a1_2, v8_10, ()) (And.intro rfl H))
    · intro ⟨a0_13, a1_13, a8_13, _u⟩ h nx H
      refine CJ.seq ?_
      refine CJ.region ?_
      refine OJ.mv rfl rfl rfl (r_move rfl rfl) ?_
      refine OJ.mv rfl rfl rfl (r_move rfl rfl) ?_
      refine OJ.fu rfl rfl rfl (r_call (args := [a0_13, a1_13]) rfl rfl rfl (And.intro rfl (And.intro rfl True.intro)) Tryz.call13 (sim13 H)) ?_
      intro v43_14 h14 nx14 H
      refine OJ.mv rfl rfl rfl (r_move rfl rfl) ?_
      refine OJ.rd rfl rfl rfl (r_extract rfl rfl H) ?_
      intro v44_15 H
      refine OJ.rd rfl rfl rfl (r_extract rfl rfl H) ?_
      intro v45_16 H
      refine OJ.mv rfl rfl rfl (r_assign rfl rfl) ?_
      refine OJ.mv rfl rfl rfl (r_assign rfl rfl) ?_
      refine OJ.fin ?_
      refine CJ.seq (CJ.cut (X := Unit) (fun x h nx => H4_j17 k   h nx) (fun x => []) ?_ ?_)
      · refine CJ.seq ?_
        refine CJ.region ?_
        refine OJ.mv rfl rfl rfl (r_move rfl rfl) ?_
        refine OJ.rd rfl rfl rfl (r_un rfl rfl H) ?_
        intro v47_19 H
        refine OJ.fin ?_
        refine CJ.ite rfl H (fun H => ?_) (fun H => ?_)
        · refine CJ.seq (CJ.cut (X := Value × Unit) (fun x h nx => H4_j20 k  x.1 h nx) (fun x => [(0, some x.1)]) ?_ ?_)
          · refine DJ.hm [0, 0, 2, 6, 14, 0, 0, 64, 254, 511, 1023, 2047] (by decide +kernel) ?_
            intro hm23
            refine DJ.mv 0 [(0, (some a0_13))] (a_move rfl rfl) ?_
            intro S23_0
            refine DJ.mv 1 [(0, (some a0_13))] (a_move rfl rfl) ?_
            intro S23_1
            refine DJ.any 2 [(49, (some a0_13))] (a_nil rfl rfl H) ?_
            intro v50_24 H S23_2
            refine DJ.any 3 [(50, (some v50_24))] (a_fieldAddr rfl rfl H) ?_
            intro v51_25 H S23_3
            refine DJ.rd 4 [(51, (some v51_25))] h14 nx14 (r_load rfl rfl H) ?_
            intro v52_26 H S23_4
            refine DJ.mv 5 [(10, (some v44_15))] (a_move rfl rfl) ?_
            intro S23_5
            refine DJ.rd 6 [(8, (some a8_13))] h14 nx14 (r_load rfl rfl H) ?_
            intro v54_27 H S23_6
            refine DJ.fu 7 [(54, (some v54_27))] h14 nx14 (r_buildSlice (vs := [(0, v54_27)]) rfl (And.intro rfl (And.intro rfl True.intro)) H) ?_
            intro v55_28 h28 nx28 H S23_7
            have I23_7 := S23_7.1
            refine DJ.rd 4 [(51, (some v51_25))] h28 nx28 (r_load rfl rfl H) ?_
            intro v52_30 H Q29
            obtain ⟨q29, H⟩ := hEq_true H
            refine DJ.fu 8 [(52, (some v52_26)), (53, (some v44_15)), (55, (some v55_28))] h28 nx28 (r_call (args := [v52_26, v44_15, v55_28]) rfl rfl rfl (And.intro rfl (And.intro rfl (And.intro rfl True.intro))) Tryz.call14 (sim14 H)) ?_
            intro v56_31 h31 nx31 H S23_8
            have I23_8 := S23_8.1
            refine DJ.any 9 [(48, (some a0_13))] (a_nil rfl rfl H) ?_
            intro v57_32 H S23_9
            refine DJ.any 10 [(57, (some v57_32))] (a_fieldAddr rfl rfl H) ?_
            intro v58_33 H S23_10
            refine DJ.wr 11 [(56, (some v56_31)), (58, (some v58_33))] h31 nx31 (r_store rfl rfl rfl H) ?_
            intro h34 H S23_11
            have I23_11 := S23_11.1
            exact CJ.draw1 [(some a0_13), (some a0_13), (some v50_24), (some v51_25), (some v52_26), (some v44_15), (some v54_27), (some v55_28), (some v56_31), (some v57_32), (some v58_33), none] [7, 8, 11] [(h14, nx14), (h28, nx28), (h31, nx31), (h34, nx31)] [] [0, 1, 2, 3, 4, 5, 6, 7, 8, 9, 10, 11] [0, 1, 2, 3, 4, 5, 6, 7, 8, 9, 10, 11] [0, 1, 2, 3, 4, 5, 6, 7, 8, 9, 10, 11] (by decide +kernel) (And.intro (F_any (Ti := [(0, (some a0_13))]) hm23 [(0, none)] (by decide +kernel) (And.intro rfl (And.intro rfl True.intro)) (guard_no rfl) rfl rfl S23_0) (And.intro (F_any (Ti := [(0, (some a0_13))]) hm23 [(0, none)] (by decide +kernel) (And.intro rfl (And.intro rfl True.intro)) (guard_no rfl) rfl rfl S23_1) (And.intro (F_any (Ti := [(49, (some a0_13))]) hm23 [(49, some 1)] (by decide +kernel) (And.intro rfl (And.intro rfl True.intro)) (guard_no rfl) rfl rfl S23_2) (And.intro (F_any (Ti := [(50, (some v50_24))]) hm23 [(50, some 2)] (by decide +kernel) (And.intro rfl (And.intro rfl True.intro)) (guard_no rfl) rfl rfl S23_3) (And.intro (F_read (Ti := [(51, (some v51_25))]) hm23 [(51, some 3)] (by decide +kernel) (And.intro rfl (And.intro rfl True.intro)) (guard_no rfl) rfl rfl 0 2 (by decide +kernel) (And.intro S23_4 (And.intro (opR_eq q29 Q29) True.intro))) (And.intro (F_any (Ti := [(10, (some v44_15))]) hm23 [(10, none)] (by decide +kernel) (And.intro rfl (And.intro rfl True.intro)) (guard_no rfl) rfl rfl S23_5) (And.intro (F_read (Ti := [(8, (some a8_13))]) hm23 [(8, none)] (by decide +kernel) (And.intro rfl (And.intro rfl True.intro)) (guard_no rfl) rfl rfl 0 1 (by decide +kernel) (And.intro S23_6 True.intro)) (And.intro (F_eff (Ti := [(54, (some v54_27))]) hm23 [(54, some 6)] (by decide +kernel) (And.intro rfl (And.intro rfl True.intro)) (guard_no rfl) rfl 0 rfl (by decide +kernel) S23_7 (Grow.refl _ _) (show nx14 ≤ nx14 by omega) True.intro) (And.intro (F_eff (Ti := [(52, (some v52_26)), (53, (some v44_15)), (55, (some v55_28))]) hm23 [(52, some 4), (53, some 5), (55, some 7)] (by decide +kernel) (And.intro rfl (And.intro rfl (And.intro rfl (And.intro rfl (And.intro rfl (And.intro rfl True.intro)))))) (guard_no rfl) rfl 1 rfl (by decide +kernel) S23_8 (Grow.refl _ _) (show nx14 ≤ nx28 by omega) True.intro) (And.intro (F_any (Ti := [(48, (some a0_13))]) hm23 [(48, some 0)] (by decide +kernel) (And.intro rfl (And.intro rfl True.intro)) (guard_no rfl) rfl rfl S23_9) (And.intro (F_any (Ti := [(57, (some v57_32))]) hm23 [(57, some 9)] (by decide +kernel) (And.intro rfl (And.intro rfl True.intro)) (guard_no rfl) rfl rfl S23_10) (And.intro (F_eff (Ti := [(56, (some v56_31)), (58, (some v58_33))]) hm23 [(56, some 8), (58, some 10)] (by decide +kernel) (And.intro rfl (And.intro rfl (And.intro rfl (And.intro rfl True.intro)))) (guard_no rfl) rfl 2 rfl (by decide +kernel) S23_11 (Grow.refl _ _) (show nx14 ≤ nx31 by omega) True.intro) True.intro)))))))))))) rfl (And.intro (by omega) (And.intro (by omega) (And.intro (by omega) (And.intro (by omega) True.intro)))) True.intro (Grow.refl _ _) [(0, none)] [(0, (some a0_13))] (by decide +kernel) (And.intro rfl (And.intro rfl True.intro)) rfl (Exists.intro (a0_13, ()) (And.intro rfl H))
          · intro ⟨a0_21, _u⟩ h nx H
            refine CJ.seq ?_
            refine CJ.region ?_
            refine OJ.mv rfl rfl rfl (r_move rfl rfl) ?_
            refine OJ.fu rfl rfl rfl (r_call (args := [a0_21]) rfl rfl rfl (And.intro rfl True.intro) Tryz.call15 (sim15 H)) ?_
            intro v60_22 h22 nx22 H
            refine OJ.mv rfl rfl rfl (r_assign rfl rfl) ?_
            refine OJ.mv rfl rfl rfl (r_assign rfl rfl) ?_
            refine OJ.fin ?_
            refine CJ.ret1 ?_
            exact ret_many (vs := [v60_22, (.int .i64 (.ofNat 0))]) [6, 7] (Or.inr rfl) rfl (And.intro rfl (And.intro rfl True.intro)) H
        · cases H
      · intro _u h nx H
        cases H

/-! 5 -/
noncomputable def H5_j2 (k : KV)   (h : Heap) (nx : Nat) : Bool :=
  false
noncomputable def H5 (a0 : Value) (a1 : Value) (h : Heap) (nx : Nat) (k : KV) : Bool :=
  hAlloc Tryz.prog 59 h nx fun v4_1 h1 nx1 =>
  H11 a0 h1 nx1 fun v12_4 h4 nx4 =>
  hUn Tryz.prog .not v12_4 fun v13_5 =>
  hIf v13_5 (fun _ => hBuild Tryz.prog 59 [] fun v14_6 =>
  storeK Tryz.prog 59 v4_1 v14_6 h4 fun h7 =>
  loadK Tryz.prog 59 v4_1 h7 fun r8 => hNT (.bool false) fun _ => k (resV [r8, (.bool false)]) h7 nx4) (fun _ => false)
theorem sim5 {a0 a1 : Value} {h : Heap} {nx : Nat} {k : KV} (H : H5 a0 a1 h nx k = true) : ∃ v h' nx', k v h' nx' = true ∧ CallSim Tryz.prog 5 [a0, a1] h nx v h' nx' := by
  refine fn_rule Tryz.func5 rfl rfl ?_
  refine CJ.seq ?_
  refine CJ.region ?_
  refine OJ.fu rfl rfl rfl (r_alloc1 rfl H) ?_
  intro v4_1 h1 nx1 H
  refine OJ.mv rfl rfl rfl (r_assign rfl rfl) ?_
  refine OJ.fin ?_
  refine CJ.seq (CJ.cut (X := Unit) (fun x h nx => H5_j2 k   h nx) (fun x => []) ?_ ?_)
  · refine CJ.seq ?_
    refine CJ.region ?_
    refine OJ.mv rfl rfl rfl (r_move rfl rfl) ?_
    refine OJ.fu rfl rfl rfl (r_call (args := [a0]) rfl rfl rfl (And.intro rfl True.intro) Tryz.call11 (sim11 H)) ?_
    intro v12_4 h4 nx4 H
    refine OJ.rd rfl rfl rfl (r_un rfl rfl H) ?_
    intro v13_5 H
    refine OJ.fin ?_
    refine CJ.ite rfl H (fun H => ?_) (fun H => ?_)
    · refine CJ.seq ?_
      refine CJ.region ?_
      refine OJ.rd rfl rfl rfl (r_build (vs := []) rfl True.intro H) ?_
      intro v14_6 H
      refine OJ.wr rfl rfl (r_store rfl rfl rfl H) ?_
      intro h7 H
      refine OJ.mv rfl rfl rfl (r_assign rfl rfl) ?_
      refine OJ.fin ?_
      refine CJ.ret1 ?_
      obtain ⟨r8, H, l8⟩ := load_val H
      obtain ⟨n9, H⟩ := hNT_true H
      exact ret_gen (vs := [r8, (.bool false)]) (Or.inr rfl) (And.intro (Exists.intro v4_1 (And.intro rfl l8)) (And.intro rfl (And.intro n9 True.intro))) H
    · cases H
  · intro _u h nx H
    cases H

/-! 6 -/
noncomputable def H6_j1 (k : KV)   (h : Heap) (nx : Nat) : Bool :=
  false
noncomputable def H6 (a0 : Value) (a1 : Value) (a2 : Value) (h : Heap) (nx : Nat) (k : KV) : Bool :=
  H11 a0 h nx fun v13_3 h3 nx3 =>
  hUn Tryz.prog .not v13_3 fun v14_4 =>
  hIf v14_4 (fun _ => k (.slice none 0 0) h3 nx3) (fun _ => false)
theorem sim6 {a0 a1 a2 : Value} {h : Heap} {nx : Nat} {k : KV} (H : H6 a0 a1 a2 h nx k = true) : ∃ v h' nx', k v h' nx' = true ∧ CallSim Tryz.prog 6 [a0, a1, a2] h nx v h' nx' := by
  refine fn_rule Tryz.func6 rfl rfl ?_
  refine CJ.seq ?_
  refine CJ.region ?_
  refine OJ.mv rfl rfl rfl (r_assign rfl rfl) ?_
  refine OJ.fin ?_
  refine CJ.seq (CJ.cut (X := Unit) (fun x h nx => H6_j1 k   h nx) (fun x => []) ?_ ?_)
  · refine CJ.seq ?_
    refine CJ.region ?_
    refine OJ.mv rfl rfl rfl (r_move rfl rfl) ?_
    refine OJ.fu rfl rfl rfl (r_call (args := [a0]) rfl rfl rfl (And.intro rfl True.intro) Tryz.call11 (sim11 H)) ?_
    intro v13_3 h3 nx3 H
    refine OJ.rd rfl rfl rfl (r_un rfl rfl H) ?_
    intro v14_4 H
    refine OJ.fin ?_
    refine CJ.ite rfl H (fun H => ?_) (fun H => ?_)
    · refine CJ.seq ?_
      refine CJ.region ?_
      refine OJ.mv rfl rfl rfl (r_assign rfl rfl) ?_
      refine OJ.fin ?_
      refine CJ.ret1 ?_
      exact ret_one (Or.inr rfl) rfl rfl H
    · cases H
  · intro _u h nx H
    cases H

/-! 75 -/
noncomputable def H75_g2 (k : KV)  (v4_1 : Value) (o6_3 : Option Value) (o7_3 : Option Value) (h : Heap) (nx : Nat) : Bool :=
  hPick v4_1 o7_3 (some (.bool false)) fun v8_4 =>
  k v8_4 h nx
noncomputable def H75 (a0 : Value) (h : Heap) (nx : Nat) (k : KV) : Bool :=
  binK Tryz.prog .geq 3 (.tmp 3) (.const (.int .i64 (.ofNat 1))) a0 (.int .i64 (.ofNat 1)) fun v4_1 =>
  hG (some v4_1) true (fun _ => binK Tryz.prog .leq 3 (.tmp 6) (.const (.int .i64 (.ofNat 2147483647))) a0 (.int .i64 (.ofNat 2147483647)) fun v7_5 =>
  H75_g2 k  v4_1 (some a0) (some v7_5) h nx) (fun _ => H75_g2 k  v4_1 none none h nx)
theorem sim75 {a0 : Value} {h : Heap} {nx : Nat} {k : KV} (H : H75 a0 h nx k = true) : ∃ v h' nx', k v h' nx' = true ∧ CallSim Tryz.prog 75 [a0] h nx v h' nx' := by
  refine fn_rule Tryz.func75 rfl rfl ?_
  refine CJ.seq ?_
  refine CJ.region ?_
  refine OJ.mv rfl rfl rfl (r_assign rfl rfl) ?_
  refine OJ.fin ?_
  refine CJ.seq ?_
  refine CJ.region ?_
  refine OJ.mv rfl rfl rfl (r_move rfl rfl) ?_
  refine OJ.rd rfl rfl rfl (r_bin rfl rfl rfl H) ?_
  intro v4_1 H
  refine OJ.mv rfl rfl rfl (r_move rfl rfl) ?_
  refine OJ.cut (X := Option Value × Option Value × Unit) 2 (fun x h nx => H75_g2 k  v4_1 x.1 x.2.1 h nx) (fun x => [(6, x.1), (7, x.2.1), (5, (some v4_1))]) ?_ (fun next => ?_)
  · intro ⟨o6_3, o7_3, _u⟩ h nx H
    refine OJ.rd rfl rfl rfl (r_pick rfl rfl rfl rfl H) ?_
    intro v8_4 H
    refine OJ.mv rfl rfl rfl (r_assign rfl rfl) ?_
    refine OJ.fin ?_
    refine CJ.ret1 ?_
    exact ret_one (Or.inr rfl) rfl rfl H
  · rcases hG_true H with ⟨g, H⟩ | ⟨g, H⟩
    · refine OJ.gmv rfl rfl rfl g rfl rfl (r_move rfl rfl) ?_
      refine OJ.grd rfl rfl rfl g rfl rfl (r_bin rfl rfl rfl H) ?_
      intro v7_5 H
      exact OJ.weaken [(6, (some a0)), (7, (some v7_5)), (5, (some v4_1))] (And.intro rfl (And.intro rfl (And.intro rfl True.intro))) (next ((some a0), (some v7_5), ()) _ _ H)
    · refine OJ.no rfl rfl rfl g rfl rfl ?_
      refine OJ.no rfl rfl rfl g rfl rfl ?_
      exact OJ.weaken [(6, none), (7, none), (5, (some v4_1))] (And.intro rfl (And.intro rfl (And.intro rfl True.intro))) (next (none, none, ()) _ _ H)

/-! 45 -/
noncomputable def H45_j6 (k : KV)   (h : Heap) (nx : Nat) : Bool :=
  false
noncomputable def H45_j12 (k : KV)  (a4_13 : Value) (a5_13 : Value) (a6_13 : Value) (h : Heap) (nx : Nat) : Bool :=
  loadK Tryz.prog 55 a4_13 h fun r14 => loadK Tryz.prog 75 a5_13 h fun r15 => hNT a6_13 fun _ => k (resV [r14, r15, a6_13]) h nx
noncomputable def H45_j4 (k : KV)  (a2_5 : Value) (a4_5 : Value) (a5_5 : Value) (h : Heap) (nx : Nat) : Bool :=
  hFieldAddr Tryz.prog 55 a2_5 0 fun v20_8 =>
  hFieldAddr Tryz.prog 48 v20_8 2 fun v21_9 =>
  loadK Tryz.prog 3 v21_9 h fun v22_10 =>
  binK Tryz.prog .neq 3 (.tmp 22) (.const (.int .i64 (.ofNat 0))) v22_10 (.int .i64 (.ofNat 0)) fun v23_11 =>
  hIf v23_11 (fun _ => loadK Tryz.prog 55 a2_5 h fun v24_18 =>
  hFieldAddr Tryz.prog 55 a2_5 0 fun v25_19 =>
  hFieldAddr Tryz.prog 48 v25_19 2 fun v26_20 =>
  loadK Tryz.prog 3 v26_20 h fun v27_21 =>
  hBuild Tryz.prog 24 [(0, (.int .i64 (.ofNat 1))), (1, v27_21)] fun v28_22 =>
  hBuildSlice Tryz.prog 73 1 [(0, v28_22)] h nx fun v29_23 h23 nx23 =>
  hBuild Tryz.prog 75 [(0, v29_23)] fun v30_24 =>
  loadK Tryz.prog 55 a2_5 h23 fun v24_26 =>
  hEq v24_26 v24_18 fun _ => loadK Tryz.prog 3 v26_20 h23 fun v27_28 =>
  hEq v27_28 v27_21 fun _ => storeK Tryz.prog 55 a4_5 v24_18 h23 fun h29 =>
  loadK Tryz.prog 3 v26_20 h29 fun v27_31 =>
  hEq v27_31 v27_21 fun _ => hSame h23 h29 nx fun _ => storeK Tryz.prog 75 a5_5 v30_24 h29 fun h33 =>
  H45_j12 k  a4_5 a5_5 (.int .i64 (.ofNat 0)) h33 nx23) (fun _ => false)
noncomputable def H45_g37 (k : KV)  (v2_1 : Value) (v4_2 : Value) (v5_3 : Value) (v12_36 : Value) (o14_38 : Option Value) (o15_38 : Option Value) (o16_38 : Option Value) (h : Heap) (nx : Nat) : Bool :=
  hPick v12_36 (some (.bool true)) o16_38 fun v17_39 =>
  hIf v17_39 (fun _ => false) (fun _ => H45_j4 k  v2_1 v4_2 v5_3 h nx)
noncomputable def H45 (a0 : Value) (a1 : Value) (h : Heap) (nx : Nat) (k : KV) : Bool :=
  hBox a0 h nx fun v2_1 h1 nx1 =>
  hAlloc Tryz.prog 55 h1 nx1 fun v4_2 h2 nx2 =>
  hAlloc Tryz.prog 75 h2 nx2 fun v5_3 h3 nx3 =>
  loadK Tryz.prog 55 v2_1 h3 fun v10_34 =>
  H59 v10_34 h3 nx3 fun v11_35 h35 nx35 =>
  binK Tryz.prog .neq 44 (.tmp 11) (.const (.int .i64 (.ofNat 0))) v11_35 (.int .i64 (.ofNat 0)) fun v12_36 =>
  hG (some v12_36) false (fun _ => H75 a1 h35 nx35 fun v15_40 h40 nx40 =>
  hUn Tryz.prog .not v15_40 fun v16_41 =>
  H45_g37 k  v2_1 v4_2 v5_3 v12_36 (some a1) (some v15_40) (some v16_41) h40 nx40) (fun _ => H45_g37 k  v2_1 v4_2 v5_3 v12_36 none none none h35 nx35)
theorem sim45 {a0 a1 : Value} {h : Heap} {nx : Nat} {k : KV} (H : H45 a0 a1 h nx k = true) : ∃ v h' nx', k v h' nx' = true ∧ CallSim Tryz.prog 45 [a0, a1] h nx v h' nx' := by
  refine fn_rule Tryz.func45 rfl rfl ?_
  refine CJ.seq ?_
  refine CJ.region ?_
  refine OJ.fu rfl rfl rfl (r_box rfl rfl H) ?_
  intro v2_1 h1 nx1 H
  refine OJ.fu rfl rfl rfl (r_alloc1 rfl H) ?_
  intro v4_2 h2 nx2 H
  refine OJ.fu rfl rfl rfl (r_alloc1 rfl H) ?_
  intro v5_3 h3 nx3 H
  refine OJ.mv rfl rfl rfl (r_assign rfl rfl) ?_
  refine OJ.fin ?_
  refine CJ.seq (CJ.cut (X := Value × Value × Value × Unit) (fun x h nx => H45_j4 k  x.1 x.2.1 x.2.2.1 h nx) (fun x => [(2, some x.1), (4, some x.2.1), (5, some x.2.2.1)]) ?_ ?_)
  · refine CJ.seq ?_
    refine CJ.region ?_
    refine OJ.rd rfl rfl rfl (r_load rfl rfl H) ?_
    intro v10_34 H
    refine OJ.fu rfl rfl rfl (r_call (args := [v10_34]) rfl rfl rfl (And.intro rfl True.intro) Tryz.call59 (sim59 H)) ?_
    intro v11_35 h35 nx35 H
    refine OJ.rd rfl rfl rfl (r_bin rfl rfl rfl H) ?_
    intro v12_36 H
    refine OJ.mv rfl rfl rfl (r_move rfl rfl) ?_
    refine OJ.cut (X := Option Value × Option Value × Option Value × Unit) 3 (fun x h nx => H45_g37 k  v2_1 v4_2 v5_3 v12_36 x.1 x.2.1 x.2.2.1 h nx) (fun x => [(14, x.1), (15, x.2.1), (16, x.2.2.1), (2, (some v2_1)), (4, (some v4_2)), (5, (some v5_3)), (13, (some v12_36))]) ?_ (fun next => ?_)
    · intro ⟨o14_38, o15_38, o16_38, _u⟩ h nx H
      refine OJ.rd rfl rfl rfl (r_pick rfl rfl rfl rfl H) ?_
      intro v17_39 H
      refine OJ.fin ?_
      refine CJ.ite rfl H (fun H => ?_) (fun H => ?_)
      · cases H
      · exact CJ.skip [(2, (some v2_1)), (4, (some v4_2)), (5, (some v5_3))] (And.intro rfl (And.intro rfl (And.intro rfl True.intro))) (Exists.intro (v2_1, v4_2, v5_3, ()) (And.intro rfl H))
    · rcases hG_true H with ⟨g, H⟩ | ⟨g, H⟩
      · refine OJ.gmv rfl rfl rfl g rfl rfl (r_move rfl rfl) ?_
        refine OJ.gfu rfl rfl rfl g rfl rfl (r_call (args := [a1]) rfl rfl rfl (And.intro rfl True.intro) Tryz.call75 (sim75 H)) ?_
        intro v15_40 h40 nx40 H
        refine OJ.grd rfl rfl rfl g rfl rfl (r_un rfl rfl H) ?_
        intro v16_41 H
        exact OJ.weaken [(14, (some a1)), (15, (some v15_40)), (16, (some v16_41)), (2, (some v2_1)), (4, (some v4_2)), (5, (some v5_3)), (13, (some v12_36))] (And.intro rfl (And.intro rfl (And.intro rfl (And.intro rfl (And.intro rfl (And.intro rfl (And.intro rfl True.intro))))))) (next ((some a1), (some v15_40), (some v16_41), ()) _ _ H)
      · refine OJ.no rfl rfl rfl g rfl rfl ?_
        refine OJ.no rfl rfl rfl g rfl rfl ?_
        refine OJ.no rfl rfl rfl g rfl rfl ?_
        exact OJ.weaken [(14, none), (15, none), (16, none), (2, (some v2_1)), (4, (some v4_2)), (5, (some v5_3)), (13, (some v12_36))] (And.intro rfl (And.intro rfl (And.intro rfl (And.intro rfl (And.intro rfl (And.intro rfl (And.intro rfl True.intro))))))) (next (none, none, none, ()) _ _ H)
  · intro ⟨a2_5, a4_5, a5_5, _u⟩ h nx H
    refine CJ.seq (CJ.cut (X := Unit) (fun x h nx => H45_j6 k   h nx) (fun x => []) ?_ ?_)
    · refine CJ.seq ?_
      refine CJ.region ?_
      refine OJ.rd rfl rfl rfl (r_fieldAddr rfl rfl H) ?_
      intro v20_8 H
      refine OJ.rd rfl rfl rfl (r_fieldAddr rfl rfl H) ?_
      intro v21_9 H
      refine OJ.rd rfl rfl rfl (r_load rfl rfl H) ?_
      intro v22_10 H
      refine OJ.rd rfl rfl rfl (r_bin rfl rfl rfl H) ?_
      intro v23_11 H
      refine OJ.fin ?_
      refine CJ.ite rfl H (fun H => ?_) (fun H => ?_)
      · refine CJ.seq (CJ.cut (X := Value × Value × Value × Unit) (fun x h nx => H45_j12 k  x.1 x.2.1 x.2.2.1 h nx) (fun x => [(4, some x.1), (5, some x.2.1), (6, some x.2.2.1)]) ?_ ?_)
        · refine DJ.hm [0, 0, 2, 6, 14, 30, 62, 1, 255, 511] (by decide +kernel) ?_
          intro hm17
          refine DJ.rd 0 [(2, (some a2_5))] h nx (r_load rfl rfl H) ?_
          intro v24_18 H S17_0
          refine DJ.any 1 [(2, (some a2_5))] (a_fieldAddr rfl rfl H) ?_
          intro v25_19 H S17_1
          refine DJ.any 2 [(25, (some v25_19))] (a_fieldAddr rfl rfl H) ?_
          intro v26_20 H S17_2
          refine DJ.rd 3 [(26, (some v26_20))] h nx (r_load rfl rfl H) ?_
          intro v27_21 H S17_3
          refine DJ.any 4 [(27, (some v27_21))] (a_build (vs := [(0, (.int .i64 (.ofNat 1))), (1, v27_21)]) rfl (And.intro rfl (And.intro rfl (And.intro rfl (And.intro rfl True.intro)))) H) ?_
          intro v28_22 H S17_4
          refine DJ.fr 5 [(28, (some v28_22))] h nx (f_buildSlice (vs := [(0, v28_22)]) rfl (And.intro rfl (And.intro rfl True.intro)) H) ?_
          intro v29_23 h23 nx23 H E17_5 W17_5 S17_5
          refine DJ.any 6 [(29, (some v29_23))] (a_build (vs := [(0, v29_23)]) rfl (And.intro rfl (And.intro rfl True.intro)) H) ?_
          intro v30_24 H S17_6
          refine DJ.rd 0 [(2, (some a2_5))] h23 nx23 (r_load rfl rfl H) ?_
          intro v24_26 H Q25
          obtain ⟨q25, H⟩ := hEq_true H
          refine DJ.rd 3 [(26, (some v26_20))] h23 nx23 (r_load rfl rfl H) ?_
          intro v27_28 H Q27
          obtain ⟨q27, H⟩ := hEq_true H
          refine DJ.wr 7 [(4, (some a4_5)), (24, (some v24_18))] h23 nx23 (r_store rfl rfl rfl H) ?_
          intro h29 H S17_7
          have I17_7 := S17_7.1
          refine DJ.rd 3 [(26, (some v26_20))] h29 nx23 (r_load rfl rfl H) ?_
          intro v27_31 H Q30
          obtain ⟨q30, H⟩ := hEq_true H
          obtain ⟨q32, H⟩ := hSame_true H
          refine DJ.wr 8 [(5, (some a5_5)), (30, (some v30_24))] h29 nx23 (r_store rfl rfl rfl H) ?_
          intro h33 H S17_8
          have I17_8 := S17_8.1
          refine DJ.mv 9 [] (a_assign rfl rfl) ?_
          intro S17_9
          exact CJ.draw1 [(some v24_18), (some v25_19), (some v26_20), (some v27_21), (some v28_22), (some v29_23), (some v30_24), none, none, (some (.int .i64 (.ofNat 0)))] [7, 8] [(h23, nx23), (h29, nx23), (h33, nx23)] [(5, nx)] [0, 1, 2, 3, 4, 5, 6, 7, 8, 9] [0, 1, 2, 3, 4, 5, 6, 7, 8, 9] [0, 7, 1, 2, 3, 4, 5, 6, 8, 9] (by decide +kernel) (And.intro (F_read (Ti := [(2, (some a2_5))]) hm17 [(2, none)] (by decide +kernel) (And.intro rfl (And.intro rfl True.intro)) (guard_no rfl) rfl rfl 0 1 (by decide +kernel) (And.intro (opR_eq q25 Q25) True.intro)) (And.intro (F_any (Ti := [(2, (some a2_5))]) hm17 [(2, none)] (by decide +kernel) (And.intro rfl (And.intro rfl True.intro)) (guard_no rfl) rfl rfl S17_1) (And.intro (F_any (Ti := [(25, (some v25_19))]) hm17 [(25, some 1)] (by decide +kernel) (And.intro rfl (And.intro rfl True.intro)) (guard_no rfl) rfl rfl S17_2) (And.intro (F_read (Ti := [(26, (some v26_20))]) hm17 [(26, some 2)] (by decide +kernel) (And.intro rfl (And.intro rfl True.intro)) (guard_no rfl) rfl rfl 0 2 (by decide +kernel) (And.intro (opR_eq q27 Q27) (And.intro (opR_eq q30 Q30) True.intro))) (And.intro (F_any (Ti := [(27, (some v27_21))]) hm17 [(27, some 3)] (by decide +kernel) (And.intro rfl (And.intro rfl True.intro)) (guard_no rfl) rfl rfl S17_4) (And.intro (F_fresh (Ti := [(28, (some v28_22))]) hm17 [(28, some 4)] (by decide +kernel) (And.intro rfl (And.intro rfl True.intro)) (guard_no rfl) rfl nx rfl (by omega) (And.intro (fun _ => rfl) True.intro) 0 2 (by decide +kernel) (And.intro (S17_5 _ _ (show nx < nx23 by omega) rfl) (And.intro (S17_5 _ _ (show nx < nx23 by omega) q32) True.intro))) (And.intro (F_any (Ti := [(29, (some v29_23))]) hm17 [(29, some 5)] (by decide +kernel) (And.intro rfl (And.intro rfl True.intro)) (guard_no rfl) rfl rfl S17_6) (And.intro (F_eff (Ti := [(4, (some a4_5)), (24, (some v24_18))]) hm17 [(4, none), (24, some 0)] (by decide +kernel) (And.intro rfl (And.intro rfl (And.intro rfl (And.intro rfl True.intro)))) (guard_no rfl) rfl 0 rfl (by decide +kernel) S17_7 (Grow.refl _ _) (show nx ≤ nx23 by omega) (And.intro (show nx < nx23 ∨ nx23 ≤ nx by omega) True.intro)) (And.intro (F_eff (Ti := [(5, (some a5_5)), (30, (some v30_24))]) hm17 [(5, none), (30, some 6)] (by decide +kernel) (And.intro rfl (And.intro rfl (And.intro rfl (And.intro rfl True.intro)))) (guard_no rfl) rfl 1 rfl (by decide +kernel) S17_8 (Grow.refl _ _) (show nx ≤ nx23 by omega) (And.intro (show nx < nx23 ∨ nx23 ≤ nx by omega) True.intro)) (And.intro (F_any (Ti := []) hm17 [] (by decide +kernel) True.intro (guard_no rfl) rfl rfl S17_9) True.intro)))))))))) rfl (And.intro (by omega) (And.intro (by omega) (And.intro (by omega) True.intro))) (And.intro (by omega) True.intro) (Grow.trans (Grow.refl _ _) W17_5) [(4, none), (5, none), (6, some 9)] [(4, (some a4_5)), (5, (some a5_5)), (6, (some (.int .i64 (.ofNat 0))))] (by decide +kernel) (And.intro rfl (And.intro rfl (And.intro rfl (And.intro rfl (And.intro rfl (And.intro rfl True.intro)))))) rfl (Exists.intro (a4_5, a5_5, (.int .i64 (.ofNat 0)), ()) (And.intro rfl H))
        · intro ⟨a4_13, a5_13, a6_13, _u⟩ h nx H
          refine CJ.ret1 ?_
          obtain ⟨r14, H, l14⟩ := load_val H
          obtain ⟨r15, H, l15⟩ := load_val H
          obtain ⟨n16, H⟩ := hNT_true H
          exact ret_gen (vs := [r14, r15, a6_13]) (Or.inr rfl) (And.intro (Exists.intro a4_13 (And.intro rfl l14)) (And.intro (Exists.intro a5_13 (And.intro rfl l15)) (And.intro rfl (And.intro n16 True.intro)))) H
      · cases H
    · intro _u h nx H
      cases H

/-! 21 -/
noncomputable def H21_j21 (k : KV)   (h : Heap) (nx : Nat) : Bool :=
  false
noncomputable def H21_j27 (k : KV)  (a4_28 : Value) (a5_28 : Value) (a6_28 : Value) (h : Heap) (nx : Nat) : Bool :=
  loadK Tryz.prog 59 a4_28 h fun r29 => loadK Tryz.prog 75 a5_28 h fun r30 => hNT a6_28 fun _ => k (resV [r29, r30, a6_28]) h nx
noncomputable def H21_j16 (k : KV)  (a2_17 : Value) (a4_17 : Value) (a5_17 : Value) (a7_17 : Value) (a8_17 : Value) (h : Heap) (nx : Nat) : Bool :=
  loadK Tryz.prog 55 a7_17 h fun v32_18 =>
  hFieldAddr Tryz.prog 59 a2_17 2 fun v33_19 =>
  storeK Tryz.prog 55 v33_19 v32_18 h fun h20 =>
  hFieldAddr Tryz.prog 55 a7_17 0 fun v34_23 =>
  hFieldAddr Tryz.prog 48 v34_23 1 fun v35_24 =>
  loadK Tryz.prog 3 v35_24 h20 fun v36_25 =>
  binK Tryz.prog .eql 3 (.tmp 36) (.const (.int .i64 (.ofNat 0))) v36_25 (.int .i64 (.ofNat 0)) fun v37_26 =>
  hIf v37_26 (fun _ => loadK Tryz.prog 59 a2_17 h20 fun v38_33 =>
  loadK Tryz.prog 75 a8_17 h20 fun v39_34 =>
  storeK Tryz.prog 59 a4_17 v38_33 h20 fun h35 =>
  loadK Tryz.prog 75 a8_17 h35 fun v39_37 =>
  hEq v39_37 v39_34 fun _ => storeK Tryz.prog 75 a5_17 v39_34 h35 fun h38 =>
  H21_j27 k  a4_17 a5_17 (.int .i64 (.ofNat 0)) h38 nx) (fun _ => false)
noncomputable def H21_j4 (k : KV)  (a1_5 : Value) (a2_5 : Value) (a4_5 : Value) (a5_5 : Value) (h : Heap) (nx : Nat) : Bool :=
  hFieldAddr Tryz.prog 59 a2_5 2 fun v20_6 =>
  loadK Tryz.prog 55 v20_6 h fun v21_7 =>
  H45 v21_7 a1_5 h nx fun v23_8 h8 nx8 =>
  hExtract v23_8 0 fun v24_9 =>
  hExtract v23_8 1 fun v25_10 =>
  hExtract v23_8 2 fun v26_11 =>
  hAlloc Tryz.prog 55 h8 nx8 fun v7_12 h12 nx12 =>
  hAlloc Tryz.prog 75 h12 nx12 fun v8_13 h13 nx13 =>
  storeK Tryz.prog 55 v7_12 v24_9 h13 fun h14 =>
  storeK Tryz.prog 75 v8_13 v25_10 h14 fun h15 =>
  binK Tryz.prog .neq 44 (.tmp 27) (.const (.int .i64 (.ofNat 0))) v26_11 (.int .i64 (.ofNat 0)) fun v28_39 =>
  hIf v28_39 (fun _ => false) (fun _ => H21_j16 k  a2_5 a4_5 a5_5 v7_12 v8_13 h15 nx13)
noncomputable def H21 (a0 : Value) (a1 : Value) (h : Heap) (nx : Nat) (k : KV) : Bool :=
  hBox a0 h nx fun v2_1 h1 nx1 =>
  hAlloc Tryz.prog 59 h1 nx1 fun v4_2 h2 nx2 =>
  hAlloc Tryz.prog 75 h2 nx2 fun v5_3 h3 nx3 =>
  loadK Tryz.prog 59 v2_1 h3 fun v14_40 =>
  H30 v14_40 h3 nx3 fun v15_41 h41 nx41 =>
  binK Tryz.prog .neq 44 (.tmp 15) (.const (.int .i64 (.ofNat 0))) v15_41 (.int .i64 (.ofNat 0)) fun v16_42 =>
  hIf v16_42 (fun _ => false) (fun _ => H21_j4 k  a1 v2_1 v4_2 v5_3 h41 nx41)
theorem sim21 {a0 a1 : Value} {h : Heap} {nx : Nat} {k : KV} (H : H21 a0 a1 h nx k = true) : ∃ v h' nx', k v h' nx' = true ∧ CallSim Tryz.prog 21 [a0, a1] h nx v h' nx' := by
  refine fn_rule Tryz.func21 rfl rfl ?_
  refine CJ.seq ?_
  refine CJ.region ?_
  refine OJ.fu rfl rfl rfl (r_box rfl rfl H) ?_
  intro v2_1 h1 nx1 H
  refine OJ.fu rfl rfl rfl (r_alloc1 rfl H) ?_
  intro v4_2 h2 nx2 H
  refine OJ.fu rfl rfl rfl (r_alloc1 rfl H) ?_
  intro v5_3 h3 nx3 H
  refine OJ.mv rfl rfl rfl (r_assign rfl rfl) ?_
  refine OJ.fin ?_
  refine CJ.seq (CJ.cut (X := Value × Value × Value × Value × Unit) (fun x h nx => H21_j4 k  x.1 x.2.1 x.2.2.1 x.2.2.2.1 h nx) (fun x => [(1, some x.1), (2, some x.2.1), (4, some x.2.2.1), (5, some x.2.2.2.1)]) ?_ ?_)
  · refine CJ.seq ?_
    refine CJ.region ?_
    refine OJ.rd rfl rfl rfl (r_load rfl rfl H) ?_
    intro v14_40 H
    refine OJ.fu rfl rfl rfl (r_call (args := [v14_40]) rfl rfl rfl (And.intro rfl True.intro) Tryz.call30 (sim30 H)) ?_
    intro v15_41 h41 nx41 H
    refine OJ.rd rfl rfl rfl (r_bin rfl rfl rfl H) ?_
    intro v16_42 H
    refine OJ.fin ?_
    refine CJ.ite rfl H (fun H => ?_) (fun H => ?_)
    · cases H
    · exact CJ.skip [(1, (some a1)), (2, (some v2_1)), (4, (some v4_2)), (5, (some v5_3))] (And.intro rfl (And.intro rfl (And.intro rfl (And.intro rfl True.intro)))) (Exists.intro (a1, v2_1, v4_2, v5_3, ()) (And.intro rfl H))
  · intro ⟨a1_5, a2_5, a4_5, a5_5, _u⟩ h nx H
    refine CJ.seq ?_
    refine CJ.region ?_
    refine OJ.rd rfl rfl rfl (r_fieldAddr rfl rfl H) ?_
    intro v20_6 H
    refine OJ.rd rfl rfl rfl (r_load rfl rfl H) ?_
    intro v21_7 H
    refine OJ.mv rfl rfl rfl (r_move rfl rfl) ?_
    refine OJ.fu rfl rfl rfl (r_call (args := [v21_7, a1_5]) rfl rfl rfl (And.intro rfl (And.intro rfl True.intro)) Tryz.call45 (sim45 H)) ?_
    intro v23_8 h8 nx8 H
    refine OJ.mv rfl rfl rfl (r_move rfl rfl) ?_
    refine OJ.rd rfl rfl rfl (r_extract rfl rfl H) ?_
    intro v24_9 H
    refine OJ.rd rfl rfl rfl (r_extract rfl rfl H) ?_
    intro v25_10 H
    refine OJ.rd rfl rfl rfl (r_extract rfl rfl H) ?_
    intro v26_11 H
    refine OJ.fu rfl rfl rfl (r_alloc1 rfl H) ?_
    intro v7_12 h12 nx12 H
    refine OJ.fu rfl rfl rfl (r_alloc1 rfl H) ?_
    intro v8_13 h13 nx13 H
    refine OJ.wr rfl rfl (r_store rfl rfl rfl H) ?_
    intro h14 H
    refine OJ.wr rfl rfl (r_store rfl rfl rfl H) ?_
    intro h15 H
    refine OJ.mv rfl rfl rfl (r_assign rfl rfl) ?_
    refine OJ.fin ?_
    refine CJ.seq (CJ.cut (X := Value × Value × Value × Value × Value × Unit) (fun x h nx => H21_j16 k  x.1 x.2.1 x.2.2.1 x.2.2.2.1 x.2.2.2.2.1 h nx) (fun x => [(2, some x.1), (4, some x.2.1), (5, some x.2.2.1), (7, some x.2.2.2.1), (8, some x.2.2.2.2.1)]) ?_ ?_)
    · refine CJ.seq ?_
      refine CJ.region ?_
      refine OJ.mv rfl rfl rfl (r_move rfl rfl) ?_
      refine OJ.rd rfl rfl rfl (r_bin rfl rfl rfl H) ?_
      intro v28_39 H
      refine OJ.fin ?_
      refine CJ.ite rfl H (fun H => ?_) (fun H => ?_)
      · cases H
      · exact CJ.skip [(2, (some a2_5)), (4, (some a4_5)), (5, (some a5_5)), (7, (some v7_12)), (8, (some v8_13))] (And.intro rfl (And.intro rfl (And.intro rfl (And.intro rfl (And.intro rfl True.intro))))) (Exists.intro (a2_5, a4_5, a5_5, v7_12, v8_13, ()) (And.intro rfl H))
    · intro ⟨a2_17, a4_17, a5_17, a7_17, a8_17, _u⟩ h nx H
      refine CJ.seq ?_
      refine CJ.region ?_
      refine OJ.rd rfl rfl rfl (r_load rfl rfl H) ?_
      intro v32_18 H
      refine OJ.rd rfl rfl rfl (r_fieldAddr rfl rfl H) ?_
      intro v33_19 H
      refine OJ.wr rfl rfl (r_store rfl rfl rfl H) ?_
      intro h20 H
      refine OJ.fin ?_
      refine CJ.seq (CJ.cut (X := Unit) (fun x h nx => H21_j21 k   h nx) (fun x => []) ?_ ?_)
      · refine CJ.seq ?_
        refine CJ.region ?_
        refine OJ.rd rfl rfl rfl (r_fieldAddr rfl rfl H) ?_
        intro v34_23 H
        refine OJ.rd rfl rfl rfl (r_fieldAddr rfl rfl H) ?_
        intro v35_24 H
        refine OJ.rd rfl rfl rfl (r_load rfl rfl H) ?_
        intro v36_25 H
        refine OJ.rd rfl rfl rfl (r_bin rfl rfl rfl H) ?_
        intro v37_26 H
        refine OJ.fin ?_
        refine CJ.ite rfl H (fun H => ?_) (fun H => ?_)
        · refine CJ.seq (CJ.cut (X := Value × Value × Value × Unit) (fun x h nx => H21_j27 k  x.1 x.2.1 x.2.2.1 h nx) (fun x => [(4, some x.1), (5, some x.2.1), (6, some x.2.2.1)]) ?_ ?_)
          · refine DJ.hm [0, 0, 1, 7, 15] (by decide +kernel) ?_
            intro hm32
            refine DJ.rd 0 [(2, (some a2_17))] h20 nx (r_load rfl rfl H) ?_
            intro v38_33 H S32_0
            refine DJ.rd 1 [(8, (some a8_17))] h20 nx (r_load rfl rfl H) ?_
            intro v39_34 H S32_1
            refine DJ.wr 2 [(4, (some a4_17)), (38, (some v38_33))] h20 nx (r_store rfl rfl rfl H) ?_
            intro h35 H S32_2
            have I32_2 := S32_2.1
            refine DJ.rd 1 [(8, (some a8_17))] h35 nx (r_load rfl rfl H) ?_
            intro v39_37 H Q36
            obtain ⟨q36, H⟩ := hEq_true H
            refine DJ.wr 3 [(5, (some a5_17)), (39, (some v39_34))] h35 nx (r_store rfl rfl rfl H) ?_
            intro h38 H S32_3
            have I32_3 := S32_3.1
            refine DJ.mv 4 [] (a_assign rfl rfl) ?_
            intro S32_4
            exact CJ.draw1 [(some v38_33), (some v39_34), none, none, (some (.int .i64 (.ofNat 0)))] [2, 3] [(h20, nx), (h35, nx), (h38, nx)] [] [0, 1, 2, 3, 4] [0, 1, 2, 3, 4] [0, 2, 1, 3, 4] (by decide +kernel) (And.intro (F_read (Ti := [(2, (some a2_17))]) hm32 [(2, none)] (by decide +kernel) (And.intro rfl (And.intro rfl True.intro)) (guard_no rfl) rfl rfl 0 1 (by decide +kernel) (And.intro S32_0 True.intro)) (And.intro (F_read (Ti := [(8, (some a8_17))]) hm32 [(8, none)] (by decide +kernel) (And.intro rfl (And.intro rfl True.intro)) (guard_no rfl) rfl rfl 0 2 (by decide +kernel) (And.intro S32_1 (And.intro (opR_eq q36 Q36) True.intro))) (And.intro (F_eff (Ti := [(4, (some a4_17)), (38, (some v38_33))]) hm32 [(4, none), (38, some 0)] (by decide +kernel) (And.intro rfl (And.intro rfl (And.intro rfl (And.intro rfl True.intro)))) (guard_no rfl) rfl 0 rfl (by decide +kernel) S32_2 (Grow.refl _ _) (show nx ≤ nx by omega) True.intro) (And.intro (F_eff (Ti := [(5, (some a5_17)), (39, (some v39_34))]) hm32 [(5, none), (39, some 1)] (by decide +kernel) (And.intro rfl (And.intro rfl (And.intro rfl (And.intro rfl True.intro)))) (guard_no rfl) rfl 1 rfl (by decide +kernel) S32_3 (Grow.refl _ _) (show nx ≤ nx by omega) True.intro) (And.intro (F_any (Ti := []) hm32 [] (by decide +kernel) True.intro (guard_no rfl) rfl rfl S32_4) True.intro))))) rfl (And.intro (by omega) (And.intro (by omega) (And.intro (by omega) True.intro))) True.intro (Grow.refl _ _) [(4, none), (5, none), (6, some 4)] [(4, (some a4_17)), (5, (some a5_17)), (6, (some (.int .i64 (.ofNat 0))))] (by decide +kernel) (And.intro rfl (And.intro rfl (And.intro rfl (And.intro rfl (And.intro rfl (And.intro rfl True.intro)))))) rfl (Exists.intro (a4_17, a5_17, (.int .i64 (.ofNat 0)), ()) (And.intro rfl H))
          · intro ⟨a4_28, a5_28, a6_28, _u⟩ h nx H
            refine CJ.ret1 ?_
            obtain ⟨r29, H, l29⟩ := load_val H
            obtain ⟨r30, H, l30⟩ := load_val H
            obtain ⟨n31, H⟩ := hNT_true H
            exact ret_gen (vs := [r29, r30, a6_28]) (Or.inr rfl) (And.intro (Exists.intro a4_28 (And.intro rfl l29)) (And.intro (Exists.intro a5_28 (And.intro rfl l30)) (And.intro rfl (And.intro n31 True.intro)))) H
        · cases H
      · intro _u h nx H
        cases H

/-! 7 -/
noncomputable def H7_j3 (k : KV)  (a0_4 : Value) (h : Heap) (nx : Nat) : Bool :=
  H15 a0_4 h nx fun v50_5 h5 nx5 =>
  k v50_5 h5 nx5
noncomputable def H7_j15 (k : KV) (ih10 : Value → Value → Value → Heap → Nat → Bool) (a0_16 : Value) (a14_16 : Value) (a15_16 : Value) (h : Heap) (nx : Nat) : Bool :=
  binK Tryz.prog .add 3 (.tmp 15) (.const (.int .i64 (.ofNat 1))) a15_16 (.int .i64 (.ofNat 1)) fun v48_17 =>
  ih10 a0_16 a14_16 v48_17 h nx
noncomputable def H7_j20 (k : KV) (ih10 : Value → Value → Value → Heap → Nat → Bool) (a0_21 : Value) (a3_21 : Value) (a5_21 : Value) (a14_21 : Value) (a15_21 : Value) (h : Heap) (nx : Nat) : Bool :=
  loadK Tryz.prog 75 a5_21 h fun v44_22 =>
  H17 a0_21 a3_21 v44_22 h nx fun v45_23 h23 nx23 =>
  H22 a0_21 h23 nx23 fun v47_24 h24 nx24 =>
  H7_j15 k ih10 a0_21 a14_21 a15_21 h24 nx24
noncomputable def H7_j18 (k : KV) (ih10 : Value → Value → Value → Heap → Nat → Bool) (a0_19 : Value) (a3_19 : Value) (a4_19 : Value) (a5_19 : Value) (a14_19 : Value) (a15_19 : Value) (h : Heap) (nx : Nat) : Bool :=
  hNil a0_19 fun v36_26 =>
  hFieldAddr Tryz.prog 43 v36_26 1 fun v37_27 =>
  loadK Tryz.prog 37 v37_27 h fun v38_28 =>
  loadK Tryz.prog 59 a4_19 h fun v40_29 =>
  hIndexAddr Tryz.prog 37 v38_28 a3_19 fun v41_30 =>
  storeK Tryz.prog 59 v41_30 v40_29 h fun h31 =>
  H7_j20 k ih10 a0_19 a3_19 a5_19 a14_19 a15_19 h31 nx
noncomputable def H7_j13 (k : KV) (ih10 : Value → Value → Value → Heap → Nat → Bool) (a0_14 : Value) (a14_14 : Value) (a15_14 : Value) (h : Heap) (nx : Nat) : Bool :=
  hNil a0_14 fun v20_33 =>
  hFieldAddr Tryz.prog 43 v20_33 1 fun v21_34 =>
  loadK Tryz.prog 37 v21_34 h fun v22_35 =>
  hIndexAddr Tryz.prog 37 v22_35 a15_14 fun v24_36 =>
  loadK Tryz.prog 59 v24_36 h fun v25_37 =>
  hNil a0_14 fun v27_38 =>
  hFieldAddr Tryz.prog 43 v27_38 2 fun v28_39 =>
  hFieldAddr Tryz.prog 39 v28_39 1 fun v29_40 =>
  loadK Tryz.prog 3 v29_40 h fun v30_41 =>
  hAlloc Tryz.prog 59 h nx fun v4_42 h42 nx42 =>
  hAlloc Tryz.prog 75 h42 nx42 fun v5_43 h43 nx43 =>
  loadK Tryz.prog 37 v21_34 h43 fun v22_45 =>
  hEq v22_45 v22_35 fun _ => loadK Tryz.prog 59 v24_36 h43 fun v25_47 =>
  hEq v25_47 v25_37 fun _ => loadK Tryz.prog 3 v29_40 h43 fun v30_49 =>
  hEq v30_49 v30_41 fun _ => hSame h42 h43 nx fun _ => H21 v25_37 v30_41 h43 nx43 fun v31_51 h51 nx51 =>
  hExtract v31_51 0 fun v32_52 =>
  hExtract v31_51 1 fun v33_53 =>
  hExtract v31_51 2 fun v34_54 =>
  hSame h42 h51 nx fun _ => hSame h43 h51 nx42 fun _ => storeK Tryz.prog 59 v4_42 v32_52 h51 fun h57 =>
  storeK Tryz.prog 75 v5_43 v33_53 h57 fun h58 =>
  H7_j18 k ih10 a0_14 a15_14 v4_42 v5_43 a14_14 a15_14 h58 nx51
noncomputable def H7_l10 (k : KV)  (n : Nat) : Value → Value → Value → Heap → Nat → Bool :=
  Nat.rec (motive := fun _ => Value → Value → Value → Heap → Nat → Bool) (fun _ _ _ _ _ => false) (fun _ ih10 a0_11 a14_11 a15_11 h nx => binK Tryz.prog .lss 3 (.tmp 15) (.tmp 14) a15_11 a14_11 fun v16_12 =>
  hIf v16_12 (fun _ => H7_j13 k ih10 a0_11 a14_11 a15_11 h nx) (fun _ => H7_j3 k  a0_11 h nx)) n
noncomputable def H7_j1 (k : KV)  (a0_2 : Value) (h : Heap) (nx : Nat) : Bool :=
  hNil a0_2 fun v11_6 =>
  hFieldAddr Tryz.prog 43 v11_6 1 fun v12_7 =>
  loadK Tryz.prog 37 v12_7 h fun v13_8 =>
  lenK Tryz.prog 37 v13_8 h fun v14_9 =>
  H7_l10 k  200000 a0_2 v14_9 (.int .i64 (.ofNat 0)) h nx
noncomputable def H7 (a0 : Value) (h : Heap) (nx : Nat) (k : KV) : Bool :=
  H11 a0 h nx fun v8_59 h59 nx59 =>
  hUn Tryz.prog .not v8_59 fun v9_60 =>
  hIf v9_60 (fun _ => k (.slice none 0 0) h59 nx59) (fun _ => H7_j1 k  a0 h59 nx59)
theorem sim7 {a0 : Value} {h : Heap} {nx : Nat} {k : KV} (H : H7 a0 h nx k = true) : ∃ v h' nx', k v h' nx' = true ∧ CallSim Tryz.prog 7 [a0] h nx v h' nx' := by
  refine fn_rule Tryz.func7 rfl rfl ?_
  refine CJ.seq ?_
  refine CJ.region ?_
  refine OJ.mv rfl rfl rfl (r_assign rfl rfl) ?_
  refine OJ.fin ?_
  refine CJ.seq (CJ.cut (X := Value × Unit) (fun x h nx => H7_j1 k  x.1 h nx) (fun x => [(0, some x.1)]) ?_ ?_)
  · refine CJ.seq ?_
    refine CJ.region ?_
    refine OJ.mv rfl rfl rfl (r_move rfl rfl) ?_
    refine OJ.fu rfl rfl rfl (r_call (args := [a0]) rfl rfl rfl (And.intro rfl True.intro) Tryz.call11 (sim11 H)) ?_
    intro v8_59 h59 nx59 H
    refine OJ.rd rfl rfl rfl (r_un rfl rfl H) ?_
    intro v9_60 H
    refine OJ.fin ?_
    refine CJ.ite rfl H (fun H => ?_) (fun H => ?_)
    · refine CJ.seq ?_
      refine CJ.region ?_
      refine OJ.mv rfl rfl rfl (r_assign rfl rfl) ?_
      refine OJ.fin ?_
      refine CJ.ret1 ?_
      exact ret_one (Or.inr rfl) rfl rfl H
    · exact CJ.skip [(0, (some a0))] (And.intro rfl True.intro) (Exists.intro (a0, ()) (And.intro rfl H))
  · intro ⟨a0_2, _u⟩ h nx H
    refine CJ.seq (CJ.cut (X := Value × Unit) (fun x h nx => H7_j3 k  x.1 h nx) (fun x => [(0, some x.1)]) ?_ ?_)
    · refine CJ.seq ?_
      refine CJ.region ?_
      refine OJ.mv rfl rfl rfl (r_move rfl rfl) ?_
      refine OJ.rd rfl rfl rfl (r_nil rfl rfl H) ?_
      intro v11_6 H
      refine OJ.rd rfl rfl rfl (r_fieldAddr rfl rfl H) ?_
      intro v12_7 H
      refine OJ.rd rfl rfl rfl (r_load rfl rfl H) ?_
      intro v13_8 H
      refine OJ.rd rfl rfl rfl (r_len (x := default) rfl rfl (And.intro rfl True.intro) rfl H) ?_
      intro v14_9 H
      refine OJ.mv rfl rfl rfl (r_move rfl rfl) ?_
      refine OJ.fin ?_
      refine CJ.block ?_
      refine CJ.weaken [(0, (some a0_2)), (14, (some v14_9)), (15, (some (.int .i64 (.ofNat 0))))] (And.intro rfl (And.intro rfl (And.intro rfl True.intro))) ?_
      refine CJ.loop_ind (X := Value × Value × Value × Unit) (fun n x h nx => H7_l10 k  n x.1 x.2.1 x.2.2.1 h nx) (fun x => [(0, some x.1), (14, some x.2.1), (15, some x.2.2.1)]) (fun _ _ _ => rfl) ?_ 200000 (a0_2, v14_9, (.int .i64 (.ofNat 0)), ()) _ _ H
      intro ih10n ih10p ⟨a0_11, a14_11, a15_11, _u⟩ h nx H
      let ih10 := H7_l10 k  ih10n
      refine CJ.seq ?_
      refine CJ.region ?_
      refine OJ.rd rfl rfl rfl (r_bin rfl rfl rfl H) ?_
      intro v16_12 H
      refine OJ.fin ?_
      refine CJ.seq (CJ.cut (X := Value × Value × Value × Unit) (fun x h nx => H7_j13 k ih10 x.1 x.2.1 x.2.2.1 h nx) (fun x => [(0, some x.1), (14, some x.2.1), (15, some x.2.2.1)]) ?_ ?_)
      · refine CJ.ite rfl H (fun H => ?_) (fun H => ?_)
        · exact CJ.skip [(0, (some a0_11)), (14, (some a14_11)), (15, (some a15_11))] (And.intro rfl (And.intro rfl (And.intro rfl True.intro))) (Exists.intro (a0_11, a14_11, a15_11, ()) (And.intro rfl H))
        · exact CJ.exit [(0, (some a0_11))] (And.intro rfl True.intro) (Exists.intro (a0_11, ()) (And.intro rfl H))
      · intro ⟨a0_14, a14_14, a15_14, _u⟩ h nx H
        refine CJ.seq (CJ.cut (X := Value × Value × Value × Unit) (fun x h nx => H7_j15 k ih10 x.1 x.2.1 x.2.2.1 h nx) (fun x => [(0, some x.1), (14, some x.2.1), (15, some x.2.2.1)]) ?_ ?_)
        · refine CJ.block ?_
          refine CJ.seq ?_
          refine CJ.region ?_
          refine OJ.mv rfl rfl rfl (r_move rfl rfl) ?_
          refine OJ.mv rfl rfl rfl (r_assign rfl rfl) ?_
          refine OJ.fin ?_
          refine CJ.seq (CJ.cut (X := Value × Value × Value × Value × Value × Value × Unit) (fun x h nx => H7_j18 k ih10 x.1 x.2.1 x.2.2.1 x.2.2.2.1 x.2.2.2.2.1 x.2.2.2.2.2.1 h nx) (fun x => [(0, some x.1), (3, some x.2.1), (4, some x.2.2.1), (5, some x.2.2.2.1), (14, some x.2.2.2.2.1), (15, some x.2.2.2.2.2.1)]) ?_ ?_)
          · refine DJ.hm [0, 1, 3, 7, 0, 31, 63, 0, 128, 384, 896, 1920, 4095, 8191, 16383, 16383, 16383, 0, 0, 425983, 983039, 2097151] (by decide +kernel) ?_
            intro hm32
            refine DJ.mv 0 [(0, (some a0_14))] (a_move rfl rfl) ?_
            intro S32_0
            refine DJ.any 1 [(19, (some a0_14))] (a_nil rfl rfl H) ?_
            intro v20_33 H S32_1
            refine DJ.any 2 [(20, (some v20_33))] (a_fieldAddr rfl rfl H) ?_
            intro v21_34 H S32_2
            refine DJ.rd 3 [(21, (some v21_34))] h nx (r_load rfl rfl H) ?_
            intro v22_35 H S32_3
            refine DJ.mv 4 [(3, (some a15_14))] (a_move rfl rfl) ?_
            intro S32_4
            refine DJ.any 5 [(22, (some v22_35)), (23, (some a15_14))] (a_indexAddr rfl rfl rfl H) ?_
            intro v24_36 H S32_5
            refine DJ.rd 6 [(24, (some v24_36))] h nx (r_load rfl rfl H) ?_
            intro v25_37 H S32_6
            refine DJ.mv 7 [(0, (some a0_14))] (a_move rfl rfl) ?_
            intro S32_7
            refine DJ.any 8 [(26, (some a0_14))] (a_nil rfl rfl H) ?_
            intro v27_38 H S32_8
            refine DJ.any 9 [(27, (some v27_38))] (a_fieldAddr rfl rfl H) ?_
            intro v28_39 H S32_9
            refine DJ.any 10 [(28, (some v28_39))] (a_fieldAddr rfl rfl H) ?_
            intro v29_40 H S32_10
            refine DJ.rd 11 [(29, (some v29_40))] h nx (r_load rfl rfl H) ?_
            intro v30_41 H S32_11
            refine DJ.fr 17 [] h nx (f_alloc rfl H) ?_
            intro v4_42 h42 nx42 H E32_17 W32_17 S32_17
            refine DJ.fr 18 [] h42 nx42 (f_alloc rfl H) ?_
            intro v5_43 h43 nx43 H E32_18 W32_18 S32_18
            refine DJ.rd 3 [(21, (some v21_34))] h43 nx43 (r_load rfl rfl H) ?_
            intro v22_45 H Q44
            obtain ⟨q44, H⟩ := hEq_true H
            refine DJ.rd 6 [(24, (some v24_36))] h43 nx43 (r_load rfl rfl H) ?_
            intro v25_47 H Q46
            obtain ⟨q46, H⟩ := hEq_true H
            refine DJ.rd 11 [(29, (some v29_40))] h43 nx43 (r_load rfl rfl H) ?_
            intro v30_49 H Q48
            obtain ⟨q48, H⟩ := hEq_true H
            obtain ⟨q50, H⟩ := hSame_true H
            refine DJ.fu 12 [(25, (some v25_37)), (30, (some v30_41))] h43 nx43 (r_call (args := [v25_37, v30_41]) rfl rfl rfl (And.intro rfl (And.intro rfl True.intro)) Tryz.call21 (sim21 H)) ?_
            intro v31_51 h51 nx51 H S32_12
            have I32_12 := S32_12.1
            refine DJ.mv 13 [(31, (some v31_51))] (a_move rfl rfl) ?_
            intro S32_13
            refine DJ.any 14 [(18, (some v31_51))] (a_extract rfl rfl H) ?_
            intro v32_52 H S32_14
            refine DJ.any 15 [(18, (some v31_51))] (a_extract rfl rfl H) ?_
            intro v33_53 H S32_15
            refine DJ.any 16 [(18, (some v31_51))] (a_extract rfl rfl H) ?_
            intro v34_54 H S32_16
            obtain ⟨q55, H⟩ := hSame_true H
            obtain ⟨q56, H⟩ := hSame_true H
            refine DJ.wr 19 [(4, (some v4_42)), (32, (some v32_52))] h51 nx51 (r_store rfl rfl rfl H) ?_
            intro h57 H S32_19
            have I32_19 := S32_19.1
            refine DJ.wr 20 [(5, (some v5_43)), (33, (some v33_53))] h57 nx51 (r_store rfl rfl rfl H) ?_
            intro h58 H S32_20
            have I32_20 := S32_20.1
            refine DJ.mv 21 [(34, (some v34_54))] (a_assign rfl rfl) ?_
            intro S32_21
            exact CJ.draw1 [(some a0_14), (some v20_33), (some v21_34), (some v22_35), (some a15_14), (some v24_36), (some v25_37), (some a0_14), (some v27_38), (some v28_39), (some v29_40), (some v30_41), (some v31_51), (some v31_51), (some v32_52), (some v33_53), (some v34_54), (some v4_42), (some v5_43), none, none, (some v34_54)] [12, 19, 20] [(h43, nx43), (h51, nx51), (h57, nx51), (h58, nx51)] [(17, nx), (18, nx42)] [0, 1, 2, 3, 4, 5, 6, 7, 8, 9, 10, 11, 12, 13, 14, 15, 16, 17, 18, 19, 20, 21] [0, 1, 2, 3, 4, 5, 6, 7, 8, 9, 10, 11, 12, 13, 14, 15, 16, 17, 18, 19, 20, 21] [0, 1, 2, 3, 4, 5, 6, 7, 8, 9, 10, 11, 12, 13, 14, 17, 18, 19, 15, 20, 16, 21] (by decide +kernel) (And.intro (F_any (Ti := [(0, (some a0_14))]) hm32 [(0, none)] (by decide +kernel) (And.intro rfl (And.intro rfl True.intro)) (guard_no rfl) rfl rfl S32_0) (And.intro (F_any (Ti := [(19, (some a0_14))]) hm32 [(19, some 0)] (by decide +kernel) (And.intro rfl (And.intro rfl True.intro)) (guard_no rfl) rfl rfl S32_1) (And.intro (F_any (Ti := [(20, (some v20_33))]) hm32 [(20, some 1)] (by decide +kernel) (And.intro rfl (And.intro rfl True.intro)) (guard_no rfl) rfl rfl S32_2) (And.intro (F_read (Ti := [(21, (some v21_34))]) hm32 [(21, some 2)] (by decide +kernel) (And.intro rfl (And.intro rfl True.intro)) (guard_no rfl) rfl rfl 0 1 (by decide +kernel) (And.intro (opR_eq q44 Q44) True.intro)) (And.intro (F_any (Ti := [(3, (some a15_14))]) hm32 [(3, none)] (by decide +kernel) (And.intro rfl (And.intro rfl True.intro)) (guard_no rfl) rfl rfl S32_4) (And.intro (F_any (Ti := [(22, (some v22_35)), (23, (some a15_14))]) hm32 [(22, some 3), (23, some 4)] (by decide +kernel) (And.intro rfl (And.intro rfl (And.intro rfl (And.intro rfl True.intro)))) (guard_no rfl) rfl rfl S32_5) (And.intro (F_read (Ti := [(24, (some v24_36))]) hm32 [(24, some 5)] (by decide +kernel) (And.intro rfl (And.intro rfl True.intro)) (guard_no rfl) rfl rfl 0 1 (by decide +kernel) (And.intro (opR_eq q46 Q46) True.intro)) (And.intro (F_any (Ti := [(0, (some a0_14))]) hm32 [(0, none)] (by decide +kernel) (And.intro rfl (And.intro rfl True.intro)) (guard_no rfl) rfl rfl S32_7) (And.intro (F_any (Ti := [(26, (some a0_14))]) hm32 [(26, some 7)] (by decide +kernel) (And.intro rfl (And.intro rfl True.intro)) (guard_no rfl) rfl rfl S32_8) (And.intro (F_any (Ti := [(27, (some v27_38))]) hm32 [(27, some 8)] (by decide +kernel) (And.intro rfl (And.intro rfl True.intro)) (guard_no rfl) rfl rfl S32_9) (And.intro (F_any (Ti := [(28, (some v28_39))]) hm32 [(28, some 9)] (by decide +kernel) (And.intro rfl (And.intro rfl True.intro)) (guard_no rfl) rfl rfl S32_10) (And.intro (F_read (Ti := [(29, (some v29_40))]) hm32 [(29, some 10)] (by decide +kernel) (And.intro rfl (And.intro rfl True.intro)) (guard_no rfl) rfl rfl 0 1 (by decide +kernel) (And.intro (opR_eq q48 Q48) True.intro)) (And.intro (F_eff (Ti := [(25, (some v25_37)), (30, (some v30_41))]) hm32 [(25, some 6), (30, some 11)] (by decide +kernel) (And.intro rfl (And.intro rfl (And.intro rfl (And.intro rfl True.intro)))) (guard_no rfl) rfl 0 rfl (by decide +kernel) S32_12 (Grow.refl _ _) (show nx ≤ nx43 by omega) (And.intro (show nx < nx43 ∨ nx51 ≤ nx by omega) (And.intro (show nx42 < nx43 ∨ nx51 ≤ nx42 by omega) True.intro))) (And.intro (F_any (Ti := [(31, (some v31_51))]) hm32 [(31, some 12)] (by decide +kernel) (And.intro rfl (And.intro rfl True.intro)) (guard_no rfl) rfl rfl S32_13) (And.intro (F_any (Ti := [(18, (some v31_51))]) hm32 [(18, some 13)] (by decide +kernel) (And.intro rfl (And.intro rfl True.intro)) (guard_no rfl) rfl rfl S32_14) (And.intro (F_any (Ti := [(18, (some v31_51))]) hm32 [(18, some 13)] (by decide +kernel) (And.intro rfl (And.intro rfl True.intro)) (guard_no rfl) rfl rfl S32_15) (And.intro (F_any (Ti := [(18, (some v31_51))]) hm32 [(18, some 13)] (by decide +kernel) (And.intro rfl (And.intro rfl True.intro)) (guard_no rfl) rfl rfl S32_16) (And.intro (F_fresh (Ti := []) hm32 [] (by decide +kernel) True.intro (guard_no rfl) rfl nx rfl (by omega) (And.intro (fun _ => rfl) (And.intro (fun e_ => by exfalso; omega) True.intro)) 0 2 (by decide +kernel) (And.intro (S32_17 _ _ (show nx < nx43 by omega) q50) (And.intro (S32_17 _ _ (show nx < nx51 by omega) q55) True.intro))) (And.intro (F_fresh (Ti := []) hm32 [] (by decide +kernel) True.intro (guard_no rfl) rfl nx42 rfl (by omega) (And.intro (fun e_ => by exfalso; omega) (And.intro (fun _ => rfl) True.intro)) 0 2 (by decide +kernel) (And.intro (S32_18 _ _ (show nx42 < nx43 by omega) rfl) (And.intro (S32_18 _ _ (show nx42 < nx51 by omega) q56) True.intro))) (And.intro (F_eff (Ti := [(4, (some v4_42)), (32, (some v32_52))]) hm32 [(4, some 17), (32, some 14)] (by decide +kernel) (And.intro rfl (And.intro rfl (And.intro rfl (And.intro rfl True.intro)))) (guard_no rfl) rfl 1 rfl (by decide +kernel) S32_19 (Grow.refl _ _) (show nx ≤ nx51 by omega) (And.intro (show nx < nx51 ∨ nx51 ≤ nx by omega) (And.intro (show nx42 < nx51 ∨ nx51 ≤ nx42 by omega) True.intro))) (And.intro (F_eff (Ti := [(5, (some v5_43)), (33, (some v33_53))]) hm32 [(5, some 18), (33, some 15)] (by decide +kernel) (And.intro rfl (And.intro rfl (And.intro rfl (And.intro rfl True.intro)))) (guard_no rfl) rfl 2 rfl (by decide +kernel) S32_20 (Grow.refl _ _) (show nx ≤ nx51 by omega) (And.intro (show nx < nx51 ∨ nx51 ≤ nx by omega) (And.intro (show nx42 < nx51 ∨ nx51 ≤ nx42 by omega) True.intro))) (And.intro (F_any (Ti := [(34, (some v34_54))]) hm32 [(34, some 16)] (by decide +kernel) (And.intro rfl (And.intro rfl True.intro)) (guard_no rfl) rfl rfl S32_21) True.intro)))))))))))))))))))))) rfl (And.intro (by omega) (And.intro (by omega) (And.intro (by omega) (And.intro (by omega) True.intro)))) (And.intro (by omega) (And.intro (by omega) True.intro)) (Grow.trans (Grow.trans (Grow.refl _ _) W32_17) W32_18) [(0, none), (3, none), (4, some 17), (5, some 18), (14, none), (15, none)] [(0, (some a0_14)), (3, (some a15_14)), (4, (some v4_42)), (5, (some v5_43)), (14, (some a14_14)), (15, (some a15_14))] (by decide +kernel) (And.intro rfl (And.intro rfl (And.intro rfl (And.intro rfl (And.intro rfl (And.intro rfl (And.intro rfl (And.intro rfl (And.intro rfl (And.intro rfl (And.intro rfl (And.intro rfl True.intro)))))))))))) rfl (Exists.intro (a0_14, a15_14, v4_42, v5_43, a14_14, a15_14, ()) (And.intro rfl H))
          · intro ⟨a0_19, a3_19, a4_19, a5_19, a14_19, a15_19, _u⟩ h nx H
            refine CJ.seq (CJ.cut (X := Value × Value × Value × Value × Value × Unit) (fun x h nx => H7_j20 k ih10 x.1 x.2.1 x.2.2.1 x.2.2.2.1 x.2.2.2.2.1 h nx) (fun x => [(0, some x.1), (3, some x.2.1), (5, some x.2.2.1), (14, some x.2.2.2.1), (15, some x.2.2.2.2.1)]) ?_ ?_)
            · refine DJ.hm [0, 1, 3, 7, 0, 0, 63, 127] (by decide +kernel) ?_
              intro hm25
              refine DJ.mv 0 [(0, (some a0_19))] (a_move rfl rfl) ?_
              intro S25_0
              refine DJ.any 1 [(35, (some a0_19))] (a_nil rfl rfl H) ?_
              intro v36_26 H S25_1
              refine DJ.any 2 [(36, (some v36_26))] (a_fieldAddr rfl rfl H) ?_
              intro v37_27 H S25_2
              refine DJ.rd 3 [(37, (some v37_27))] h nx (r_load rfl rfl H) ?_
              intro v38_28 H S25_3
              refine DJ.mv 4 [(3, (some a3_19))] (a_move rfl rfl) ?_
              intro S25_4
              refine DJ.rd 5 [(4, (some a4_19))] h nx (r_load rfl rfl H) ?_
              intro v40_29 H S25_5
              refine DJ.any 6 [(38, (some v38_28)), (39, (some a3_19))] (a_indexAddr rfl rfl rfl H) ?_
              intro v41_30 H S25_6
              refine DJ.wr 7 [(40, (some v40_29)), (41, (some v41_30))] h nx (r_store rfl rfl rfl H) ?_
              intro h31 H S25_7
              have I25_7 := S25_7.1
              exact CJ.draw1 [(some a0_19), (some v36_26), (some v37_27), (some v38_28), (some a3_19), (some v40_29), (some v41_30), none] [7] [(h, nx), (h31, nx)] [] [0, 1, 2, 3, 4, 5, 6, 7] [0, 1, 2, 3, 4, 5, 6, 7] [0, 1, 2, 3, 4, 5, 6, 7] (by decide +kernel) (And.intro (F_any (Ti := [(0, (some a0_19))]) hm25 [(0, none)] (by decide +kernel) (And.intro rfl (And.intro rfl True.intro)) (guard_no rfl) rfl rfl S25_0) (And.intro (F_any (Ti := [(35, (some a0_19))]) hm25 [(35, some 0)] (by decide +kernel) (And.intro rfl (And.intro rfl True.intro)) (guard_no rfl) rfl rfl S25_1) (And.intro (F_any (Ti := [(36, (some v36_26))]) hm25 [(36, some 1)] (by decide +kernel) (And.intro rfl (And.intro rfl True.intro)) (guard_no rfl) rfl rfl S25_2) (And.intro (F_read (Ti := [(37, (some v37_27))]) hm25 [(37, some 2)] (by decide +kernel) (And.intro rfl (And.intro rfl True.intro)) (guard_no rfl) rfl rfl 0 1 (by decide +kernel) (And.intro S25_3 True.intro)) (And.intro (F_any (Ti := [(3, (some a3_19))]) hm25 [(3, none)] (by decide +kernel) (And.intro rfl (And.intro rfl True.intro)) (guard_no rfl) rfl rfl S25_4) (And.intro (F_read (Ti := [(4, (some a4_19))]) hm25 [(4, none)] (by decide +kernel) (And.intro rfl (And.intro rfl True.intro)) (guard_no rfl) rfl rfl 0 1 (by decide +kernel) (And.intro S25_5 True.intro)) (And.intro (F_any (Ti := [(38, (some v38_28)), (39, (some a3_19))]) hm25 [(38, some 3), (39, some 4)] (by decide +kernel) (And.intro rfl (And.intro rfl (And.intro rfl (And.intro rfl True.intro)))) (guard_no rfl) rfl rfl S25_6) (And.intro (F_eff (Ti := [(40, (some v40_29)), (41, (some v41_30))]) hm25 [(40, some 5), (41, some 6)] (by decide +kernel) (And.intro rfl (And.intro rfl (And.intro rfl (And.intro rfl True.intro)))) (guard_no rfl) rfl 0 rfl (by decide +kernel) S25_7 (Grow.refl _ _) (show nx ≤ nx by omega) True.intro) True.intro)))))))) rfl (And.intro (by omega) (And.intro (by omega) True.intro)) True.intro (Grow.refl _ _) [(0, none), (3, none), (5, none), (14, none), (15, none)] [(0, (some a0_19)), (3, (some a3_19)), (5, (some a5_19)), (14, (some a14_19)), (15, (some a15_19))] (by decide +kernel) (And.intro rfl (And.intro rfl (And.intro rfl (And.intro rfl (And.intro rfl (And.intro rfl (And.intro rfl (And.intro rfl (And.intro rfl (And.intro rfl True.intro)))))))))) rfl (Exists.intro (a0_19, a3_19, a5_19, a14_19, a15_19, ()) (And.intro rfl H))
            · intro ⟨a0_21, a3_21, a5_21, a14_21, a15_21, _u⟩ h nx H
              refine CJ.seq ?_
              refine CJ.region ?_
              refine OJ.mv rfl rfl rfl (r_move rfl rfl) ?_
              refine OJ.mv rfl rfl rfl (r_move rfl rfl) ?_
              refine OJ.rd rfl rfl rfl (r_load rfl rfl H) ?_
              intro v44_22 H
              refine OJ.fu rfl rfl rfl (r_call (args := [a0_21, a3_21, v44_22]) rfl rfl rfl (And.intro rfl (And.intro rfl (And.intro rfl True.intro))) Tryz.call17 (sim17 H)) ?_
              intro v45_23 h23 nx23 H
              refine OJ.fin ?_
              refine CJ.region ?_
              refine OJ.mv rfl rfl rfl (r_move rfl rfl) ?_
              refine OJ.fu rfl rfl rfl (r_call (args := [a0_21]) rfl rfl rfl (And.intro rfl True.intro) Tryz.call22 (sim22 H)) ?_
              intro v47_24 h24 nx24 H
              exact OJ.done [(0, (some a0_21)), (14, (some a14_21)), (15, (some a15_21))] (And.intro rfl (And.intro rfl (And.intro rfl True.intro))) (Exists.intro (a0_21, a14_21, a15_21, ()) (And.intro rfl H))
        · intro ⟨a0_16, a14_16, a15_16, _u⟩ h nx H
          refine CJ.region ?_
          refine OJ.rd rfl rfl rfl (r_bin rfl rfl rfl H) ?_
          intro v48_17 H
          refine OJ.mv rfl rfl rfl (r_move rfl rfl) ?_
          exact OJ.done [(0, (some a0_16)), (14, (some a14_16)), (15, (some v48_17))] (And.intro rfl (And.intro rfl (And.intro rfl True.intro))) (ih10p (a0_16, a14_16, v48_17, ()) _ _ H)
    · intro ⟨a0_4, _u⟩ h nx H
      refine CJ.seq ?_
      refine CJ.region ?_
      refine OJ.mv rfl rfl rfl (r_move rfl rfl) ?_
      refine OJ.fu rfl rfl rfl (r_call (args := [a0_4]) rfl rfl rfl (And.intro rfl True.intro) Tryz.call15 (sim15 H)) ?_
      intro v50_5 h5 nx5 H
      refine OJ.mv rfl rfl rfl (r_assign rfl rfl) ?_
      refine OJ.fin ?_
      refine CJ.ret1 ?_
      exact ret_one (Or.inr rfl) rfl rfl H

/-! 8 -/
noncomputable def H8_j2 (k : KV)   (h : Heap) (nx : Nat) : Bool :=
  false
noncomputable def H8 (a0 : Value) (h : Heap) (nx : Nat) (k : KV) : Bool :=
  hAlloc Tryz.prog 36 h nx fun v2_1 h1 nx1 =>
  H11 a0 h1 nx1 fun v4_4 h4 nx4 =>
  hUn Tryz.prog .not v4_4 fun v5_5 =>
  hIf v5_5 (fun _ => hBuild Tryz.prog 36 [] fun v6_6 =>
  storeK Tryz.prog 36 v2_1 v6_6 h4 fun h7 =>
  loadK Tryz.prog 36 v2_1 h7 fun r8 => k (resV [r8]) h7 nx4) (fun _ => false)
theorem sim8 {a0 : Value} {h : Heap} {nx : Nat} {k : KV} (H : H8 a0 h nx k = true) : ∃ v h' nx', k v h' nx' = true ∧ CallSim Tryz.prog 8 [a0] h nx v h' nx' := by
  refine fn_rule Tryz.func8 rfl rfl ?_
  refine CJ.seq ?_
  refine CJ.region ?_
  refine OJ.fu rfl rfl rfl (r_alloc1 rfl H) ?_
  intro v2_1 h1 nx1 H
  refine OJ.fin ?_
  refine CJ.seq (CJ.cut (X := Unit) (fun x h nx => H8_j2 k   h nx) (fun x => []) ?_ ?_)
  · refine CJ.seq ?_
    refine CJ.region ?_
    refine OJ.mv rfl rfl rfl (r_move rfl rfl) ?_
    refine OJ.fu rfl rfl rfl (r_call (args := [a0]) rfl rfl rfl (And.intro rfl True.intro) Tryz.call11 (sim11 H)) ?_
    intro v4_4 h4 nx4 H
    refine OJ.rd rfl rfl rfl (r_un rfl rfl H) ?_
    intro v5_5 H
    refine OJ.fin ?_
    refine CJ.ite rfl H (fun H => ?_) (fun H => ?_)
    · refine CJ.seq ?_
      refine CJ.region ?_
      refine OJ.rd rfl rfl rfl (r_build (vs := []) rfl True.intro H) ?_
      intro v6_6 H
      refine OJ.wr rfl rfl (r_store rfl rfl rfl H) ?_
      intro h7 H
      refine OJ.fin ?_
      refine CJ.ret1 ?_
      obtain ⟨r8, H, l8⟩ := load_val H
      exact ret_gen (vs := [r8]) (Or.inr rfl) (And.intro (Exists.intro v2_1 (And.intro rfl l8)) True.intro) H
    · cases H
  · intro _u h nx H
    cases H

/-! 9 -/
noncomputable def H9_j1 (k : KV)   (h : Heap) (nx : Nat) : Bool :=
  false
noncomputable def H9 (a0 : Value) (h : Heap) (nx : Nat) (k : KV) : Bool :=
  H11 a0 h nx fun v6_3 h3 nx3 =>
  hUn Tryz.prog .not v6_3 fun v7_4 =>
  hIf v7_4 (fun _ => k (.slice none 0 0) h3 nx3) (fun _ => false)
theorem sim9 {a0 : Value} {h : Heap} {nx : Nat} {k : KV} (H : H9 a0 h nx k = true) : ∃ v h' nx', k v h' nx' = true ∧ CallSim Tryz.prog 9 [a0] h nx v h' nx' := by
  refine fn_rule Tryz.func9 rfl rfl ?_
  refine CJ.seq ?_
  refine CJ.region ?_
  refine OJ.mv rfl rfl rfl (r_assign rfl rfl) ?_
  refine OJ.fin ?_
  refine CJ.seq (CJ.cut (X := Unit) (fun x h nx => H9_j1 k   h nx) (fun x => []) ?_ ?_)
  · refine CJ.seq ?_
    refine CJ.region ?_
    refine OJ.mv rfl rfl rfl (r_move rfl rfl) ?_
    refine OJ.fu rfl rfl rfl (r_call (args := [a0]) rfl rfl rfl (And.intro rfl True.intro) Tryz.call11 (sim11 H)) ?_
    intro v6_3 h3 nx3 H
    refine OJ.rd rfl rfl rfl (r_un rfl rfl H) ?_
    intro v7_4 H
    refine OJ.fin ?_
    refine CJ.ite rfl H (fun H => ?_) (fun H => ?_)
    · refine CJ.seq ?_
      refine CJ.region ?_
      refine OJ.mv rfl rfl rfl (r_assign rfl rfl) ?_
      refine OJ.fin ?_
      refine CJ.ret1 ?_
      exact ret_one (Or.inr rfl) rfl rfl H
    · cases H
  · intro _u h nx H
    cases H

/-! 84 -/
noncomputable def H84_g2 (k : KV)  (v4_1 : Value) (o6_3 : Option Value) (o7_3 : Option Value) (h : Heap) (nx : Nat) : Bool :=
  hPick v4_1 o7_3 (some (.bool false)) fun v8_4 =>
  k v8_4 h nx
noncomputable def H84 (a0 : Value) (h : Heap) (nx : Nat) (k : KV) : Bool :=
  binK Tryz.prog .geq 3 (.tmp 3) (.const (.int .i64 (.ofNat 1))) a0 (.int .i64 (.ofNat 1)) fun v4_1 =>
  hG (some v4_1) true (fun _ => binK Tryz.prog .leq 3 (.tmp 6) (.const (.int .i64 (.ofNat 64))) a0 (.int .i64 (.ofNat 64)) fun v7_5 =>
  H84_g2 k  v4_1 (some a0) (some v7_5) h nx) (fun _ => H84_g2 k  v4_1 none none h nx)
theorem sim84 {a0 : Value} {h : Heap} {nx : Nat} {k : KV} (H : H84 a0 h nx k = true) : ∃ v h' nx', k v h' nx' = true ∧ CallSim Tryz.prog 84 [a0] h nx v h' nx' := by
  refine fn_rule Tryz.func84 rfl rfl ?_
  refine CJ.seq ?_
  refine CJ.region ?_
  refine OJ.mv rfl rfl rfl (r_assign rfl rfl) ?_
  refine OJ.fin ?_
  refine CJ.seq ?_
  refine CJ.region ?_
  refine OJ.mv rfl rfl rfl (r_move rfl rfl) ?_
  refine OJ.rd rfl rfl rfl (r_bin rfl rfl rfl H) ?_
  intro v4_1 H
  refine OJ.mv rfl rfl rfl (r_move rfl rfl) ?_
  refine OJ.cut (X := Option Value × Option Value × Unit) 2 (fun x h nx => H84_g2 k  v4_1 x.1 x.2.1 h nx) (fun x => [(6, x.1), (7, x.2.1), (5, (some v4_1))]) ?_ (fun next => ?_)
  · intro ⟨o6_3, o7_3, _u⟩ h nx H
    refine OJ.rd rfl rfl rfl (r_pick rfl rfl rfl rfl H) ?_
    intro v8_4 H
    refine OJ.mv rfl rfl rfl (r_assign rfl rfl) ?_
    refine OJ.fin ?_
    refine CJ.ret1 ?_
    exact ret_one (Or.inr rfl) rfl rfl H
  · rcases hG_true H with ⟨g, H⟩ | ⟨g, H⟩
    · refine OJ.gmv rfl rfl rfl g rfl rfl (r_move rfl rfl) ?_
      refine OJ.grd rfl rfl rfl g rfl rfl (r_bin rfl rfl rfl H) ?_
      intro v7_5 H
      exact OJ.weaken [(6, (some a0)), (7, (some v7_5)), (5, (some v4_1))] (And.intro rfl (And.intro rfl (And.intro rfl True.intro))) (next ((some a0), (some v7_5), ()) _ _ H)
    · refine OJ.no rfl rfl rfl g rfl rfl ?_
      refine OJ.no rfl rfl rfl g rfl rfl ?_
      exact OJ.weaken [(6, none), (7, none), (5, (some v4_1))] (And.intro rfl (And.intro rfl (And.intro rfl True.intro))) (next (none, none, ()) _ _ H)

/-! 123 -/
noncomputable def H123_j2 (k : KV)  (a0_3 : Value) (a2_3 : Value) (a6_3 : Value) (h : Heap) (nx : Nat) : Bool :=
  binK Tryz.prog .add 3 (.tmp 34) (.const (.int .i64 (.ofNat 1))) a0_3 (.int .i64 (.ofNat 1)) fun v35_4 =>
  hBuild Tryz.prog 29 [(0, v35_4), (1, a2_3)] fun v37_5 =>
  storeK Tryz.prog 29 a6_3 v37_5 h fun h6 =>
  loadK Tryz.prog 29 a6_3 h6 fun r7 => hNT (.int .i64 (.ofNat 0)) fun _ => k (resV [r7, (.int .i64 (.ofNat 0))]) h6 nx
noncomputable def H123_g20 (k : KV)  (a0 : Value) (a1 : Value) (a2 : Value) (v6_1 : Value) (v23_19 : Value) (o25_21 : Option Value) (o26_21 : Option Value) (h : Heap) (nx : Nat) : Bool :=
  hPick v23_19 (some (.bool true)) o26_21 fun v27_22 =>
  hIf v27_22 (fun _ => false) (fun _ => binK Tryz.prog .geq 3 (.tmp 30) (.tmp 31) a0 a1 fun v32_23 =>
  hIf v32_23 (fun _ => false) (fun _ => H123_j2 k  a0 a2 v6_1 h nx))
noncomputable def H123_g17 (k : KV)  (a0 : Value) (a1 : Value) (a2 : Value) (v6_1 : Value) (v19_16 : Value) (o21_18 : Option Value) (o22_18 : Option Value) (h : Heap) (nx : Nat) : Bool :=
  hPick v19_16 (some (.bool true)) o22_18 fun v23_19 =>
  hG (some v23_19) false (fun _ => binK Tryz.prog .gtr 3 (.tmp 25) (.const (.int .i64 (.ofNat 2147483647))) a1 (.int .i64 (.ofNat 2147483647)) fun v26_24 =>
  H123_g20 k  a0 a1 a2 v6_1 v23_19 (some a1) (some v26_24) h nx) (fun _ => H123_g20 k  a0 a1 a2 v6_1 v23_19 none none h nx)
noncomputable def H123_g14 (k : KV)  (a0 : Value) (a1 : Value) (a2 : Value) (v6_1 : Value) (v15_13 : Value) (o17_15 : Option Value) (o18_15 : Option Value) (h : Heap) (nx : Nat) : Bool :=
  hPick v15_13 (some (.bool true)) o18_15 fun v19_16 =>
  hG (some v19_16) false (fun _ => binK Tryz.prog .lss 3 (.tmp 21) (.const (.int .i64 (.ofNat 1))) a1 (.int .i64 (.ofNat 1)) fun v22_25 =>
  H123_g17 k  a0 a1 a2 v6_1 v19_16 (some a1) (some v22_25) h nx) (fun _ => H123_g17 k  a0 a1 a2 v6_1 v19_16 none none h nx)
noncomputable def H123_g11 (k : KV)  (a0 : Value) (a1 : Value) (a2 : Value) (v6_1 : Value) (v11_10 : Value) (o13_12 : Option Value) (o14_12 : Option Value) (h : Heap) (nx : Nat) : Bool :=
  hPick v11_10 (some (.bool true)) o14_12 fun v15_13 =>
  hG (some v15_13) false (fun _ => binK Tryz.prog .gtr 3 (.tmp 17) (.const (.int .i64 (.ofNat 2147483647))) a0 (.int .i64 (.ofNat 2147483647)) fun v18_26 =>
  H123_g14 k  a0 a1 a2 v6_1 v15_13 (some a0) (some v18_26) h nx) (fun _ => H123_g14 k  a0 a1 a2 v6_1 v15_13 none none h nx)
noncomputable def H123 (a0 : Value) (a1 : Value) (a2 : Value) (h : Heap) (nx : Nat) (k : KV) : Bool :=
  hAlloc Tryz.prog 29 h nx fun v6_1 h1 nx1 =>
  H84 a2 h1 nx1 fun v10_9 h9 nx9 =>
  hUn Tryz.prog .not v10_9 fun v11_10 =>
  hG (some v11_10) false (fun _ => binK Tryz.prog .lss 3 (.tmp 13) (.const (.int .i64 (.ofNat 0))) a0 (.int .i64 (.ofNat 0)) fun v14_27 =>
  H123_g11 k  a0 a1 a2 v6_1 v11_10 (some a0) (some v14_27) h9 nx9) (fun _ => H123_g11 k  a0 a1 a2 v6_1 v11_10 none none h9 nx9)
theorem sim123 {a0 a1 a2 : Value} {h : Heap} {nx : Nat} {k : KV} (H : H123 a0 a1 a2 h nx k = true) : ∃ v h' nx', k v h' nx' = true ∧ CallSim Tryz.prog 123 [a0, a1, a2] h nx v h' nx' := by
  refine fn_rule Tryz.func123 rfl rfl ?_
  refine CJ.seq ?_
  refine CJ.region ?_
  refine OJ.fu rfl rfl rfl (r_alloc1 rfl H) ?_
  intro v6_1 h1 nx1 H
  refine OJ.mv rfl rfl rfl (r_assign rfl rfl) ?_
  refine OJ.fin ?_
  refine CJ.seq (CJ.cut (X := Value × Value × Value × Unit) (fun x h nx => H123_j2 k  x.1 x.2.1 x.2.2.1 h nx) (fun x => [(0, some x.1), (2, some x.2.1), (6, some x.2.2.1)]) ?_ ?_)
  · refine CJ.block ?_
    refine CJ.seq ?_
    refine CJ.region ?_
    refine OJ.mv rfl rfl rfl (r_move rfl rfl) ?_
    refine OJ.fu rfl rfl rfl (r_call (args := [a2]) rfl rfl rfl (And.intro rfl True.intro) Tryz.call84 (sim84 H)) ?_
    intro v10_9 h9 nx9 H
    refine OJ.rd rfl rfl rfl (r_un rfl rfl H) ?_
    intro v11_10 H
    refine OJ.mv rfl rfl rfl (r_move rfl rfl) ?_
    refine OJ.cut (X := Option Value × Option Value × Unit) 2 (fun x h nx => H123_g11 k  a0 a1 a2 v6_1 v11_10 x.1 x.2.1 h nx) (fun x => [(13, x.1), (14, x.2.1), (0, (some a0)), (1, (some a1)), (2, (some a2)), (6, (some v6_1)), (12, (some v11_10))]) ?_ (fun next => ?_)
    · intro ⟨o13_12, o14_12, _u⟩ h nx H
      refine OJ.rd rfl rfl rfl (r_pick rfl rfl rfl rfl H) ?_
      intro v15_13 H
      refine OJ.mv rfl rfl rfl (r_move rfl rfl) ?_
      refine OJ.cut (X := Option Value × Option Value × Unit) 2 (fun x h nx => H123_g14 k  a0 a1 a2 v6_1 v15_13 x.1 x.2.1 h nx) (fun x => [(17, x.1), (18, x.2.1), (0, (some a0)), (1, (some a1)), (2, (some a2)), (6, (some v6_1)), (16, (some v15_13))]) ?_ (fun next => ?_)
      · intro ⟨o17_15, o18_15, _u⟩ h nx H
        refine OJ.rd rfl rfl rfl (r_pick rfl rfl rfl rfl H) ?_
        intro v19_16 H
        refine OJ.mv rfl rfl rfl (r_move rfl rfl) ?_
        refine OJ.cut (X := Option Value × Option Value × Unit) 2 (fun x h nx => H123_g17 k  a0 a1 a2 v6_1 v19_16 x.1 x.2.1 h nx) (fun x => [(21, x.1), (22, x.2.1), (0, (some a0)), (1, (some a1)), (2, (some a2)), (6, (some v6_1)), (20, (some v19_16))]) ?_ (fun next => ?_)
        · intro ⟨o21_18, o22_18, _u⟩ h nx H
          refine OJ.rd rfl rfl rfl (r_pick rfl rfl rfl rfl H) ?_
          intro v23_19 H
          refine OJ.mv rfl rfl rfl (r_move rfl rfl) ?_
          refine OJ.cut (X := Option Value × Option Value × Unit) 2 (fun x h nx => H123_g20 k  a0 a1 a2 v6_1 v23_19 x.1 x.2.1 h nx) (fun x => [(25, x.1), (26, x.2.1), (0, (some a0)), (1, (some a1)), (2, (some a2)), (6, (some v6_1)), (24, (some v23_19))]) ?_ (fun next => ?_)
          · intro ⟨o25_21, o26_21, _u⟩ h nx H
            refine OJ.rd rfl rfl rfl (r_pick rfl rfl rfl rfl H) ?_
            intro v27_22 H
            refine OJ.mv rfl rfl rfl (r_assign rfl rfl) ?_
            refine OJ.fin ?_
            refine CJ.ite rfl H (fun H => ?_) (fun H => ?_)
            · cases H
            · refine CJ.seq ?_
              refine CJ.region ?_
              refine OJ.mv rfl rfl rfl (r_move rfl rfl) ?_
              refine OJ.mv rfl rfl rfl (r_move rfl rfl) ?_
              refine OJ.rd rfl rfl rfl (r_bin rfl rfl rfl H) ?_
              intro v32_23 H
              refine OJ.mv rfl rfl rfl (r_assign rfl rfl) ?_
              refine OJ.fin ?_
              refine CJ.ite rfl H (fun H => ?_) (fun H => ?_)
              · cases H
              · exact CJ.skip [(0, (some a0)), (2, (some a2)), (6, (some v6_1))] (And.intro rfl (And.intro rfl (And.intro rfl True.intro))) (Exists.intro (a0, a2, v6_1, ()) (And.intro rfl H))
          · rcases hG_true H with ⟨g, H⟩ | ⟨g, H⟩
            · refine OJ.gmv rfl rfl rfl g rfl rfl (r_move rfl rfl) ?_
              refine OJ.grd rfl rfl rfl g rfl rfl (r_bin rfl rfl rfl H) ?_
              intro v26_24 H
              exact OJ.weaken [(25, (some a1)), (26, (some v26_24)), (0, (some a0)), (1, (some a1)), (2, (some a2)), (6, (some v6_1)), (24, (some v23_19))] (And.intro rfl (And.intro rfl (And.intro rfl (And.intro rfl (And.intro rfl (And.intro rfl (And.intro rfl True.intro))))))) (next ((some a1), (some v26_24), ()) _ _ H)
            · refine OJ.no rfl rfl rfl g rfl rfl ?_
              refine OJ.no rfl rfl rfl g rfl rfl ?_
              exact OJ.weaken [(25, none), (26, none), (0, (some a0)), (1, (some a1)), (2, (some a2)), (6, (some v6_1)), (24, (some v23_19))] (And.intro rfl (And.intro rfl (And.intro rfl (And.intro rfl (And.intro rfl (And.intro rfl (And.intro rfl True.intro))))))) (next (none, none, ()) _ _ H)
        · rcases hG_true H with ⟨g, H⟩ | ⟨g, H⟩
          · refine OJ.gmv rfl rfl rfl g rfl rfl (r_move rfl rfl) ?_
            refine OJ.grd rfl rfl rfl g rfl rfl (r_bin rfl rfl rfl H) ?_
            intro v22_25 H
            exact OJ.weaken [(21, (some a1)), (22, (some v22_25)), (0, (some a0)), (1, (some a1)), (2, (some a2)), (6, (some v6_1)), (20, (some v19_16))] (And.intro rfl (And.intro rfl (And.intro rfl (And.intro rfl (And.intro rfl (And.intro rfl (And.intro rfl True.intro))))))) (next ((some a1), (some v22_25), ()) _ _ H)
          · refine OJ.no rfl rfl rfl g rfl rfl ?_
            refine OJ.no rfl rfl rfl g rfl rfl ?_
            exact OJ.weaken [(21, none), (22, none), (0, (some a0)), (1, (some a1)), (2, (some a2)), (6, (some v6_1)), (20, (some v19_16))] (And.intro rfl (And.intro rfl (And.intro rfl (And.intro rfl (And.intro rfl (And.intro rfl (And.intro rfl True.intro))))))) (next (none, none, ()) _ _ H)
      · rcases hG_true H with ⟨g, H⟩ | ⟨g, H⟩
        · refine OJ.gmv rfl rfl rfl g rfl rfl (r_move rfl rfl) ?_
          refine OJ.grd rfl rfl rfl g rfl rfl (r_bin rfl rfl rfl H) ?_
          intro v18_26 H
          exact OJ.weaken [(17, (some a0)), (18, (some v18_26)), (0, (some a0)), (1, (some a1)), (2, (some a2)), (6, (some v6_1)), (16, (some v15_13))] (And.intro rfl (And.intro rfl (And.intro rfl (And.intro rfl (And.intro rfl (And.intro rfl (And.intro rfl True.intro))))))) (next ((some a0), (some v18_26), ()) _ _ H)
        · refine OJ.no rfl rfl rfl g rfl rfl ?_
          refine OJ.no rfl rfl rfl g rfl rfl ?_
          exact OJ.weaken [(17, none), (18, none), (0, (some a0)), (1, (some a1)), (2, (some a2)), (6, (some v6_1)), (16, (some v15_13))] (And.intro rfl (And.intro rfl (And.intro rfl (And.intro rfl (And.intro rfl (And.intro rfl (And.intro rfl True.intro))))))) (next (none, none, ()) _ _ H)
    · rcases hG_true H with ⟨g, H⟩ | ⟨g, H⟩
      · refine OJ.gmv rfl rfl rfl g rfl rfl (r_move rfl rfl) ?_
        refine OJ.grd rfl rfl rfl g rfl rfl (r_bin rfl rfl rfl H) ?_
        intro v14_27 H
        exact OJ.weaken [(13, (some a0)), (14, (some v14_27)), (0, (some a0)), (1, (some a1)), (2, (some a2)), (6, (some v6_1)), (12, (some v11_10))] (And.intro rfl (And.intro rfl (And.intro rfl (And.intro rfl (And.intro rfl (And.intro rfl (And.intro rfl True.intro))))))) (next ((some a0), (some v14_27), ()) _ _ H)
      · refine OJ.no rfl rfl rfl g rfl rfl ?_
        refine OJ.no rfl rfl rfl g rfl rfl ?_
        exact OJ.weaken [(13, none), (14, none), (0, (some a0)), (1, (some a1)), (2, (some a2)), (6, (some v6_1)), (12, (some v11_10))] (And.intro rfl (And.intro rfl (And.intro rfl (And.intro rfl (And.intro rfl (And.intro rfl (And.intro rfl True.intro))))))) (next (none, none, ()) _ _ H)
  · intro ⟨a0_3, a2_3, a6_3, _u⟩ h nx H
    refine CJ.seq ?_
    refine CJ.region ?_
    refine OJ.mv rfl rfl rfl (r_move rfl rfl) ?_
    refine OJ.rd rfl rfl rfl (r_bin rfl rfl rfl H) ?_
    intro v35_4 H
    refine OJ.mv rfl rfl rfl (r_move rfl rfl) ?_
    refine OJ.rd rfl rfl rfl (r_build (vs := [(0, v35_4), (1, a2_3)]) rfl (And.intro rfl (And.intro rfl (And.intro rfl (And.intro rfl True.intro)))) H) ?_
    intro v37_5 H
    refine OJ.wr rfl rfl (r_store rfl rfl rfl H) ?_
    intro h6 H
    refine OJ.mv rfl rfl rfl (r_assign rfl rfl) ?_
    refine OJ.fin ?_
    refine CJ.ret1 ?_
    obtain ⟨r7, H, l7⟩ := load_val H
    obtain ⟨n8, H⟩ := hNT_true H
    exact ret_gen (vs := [r7, (.int .i64 (.ofNat 0))]) (Or.inr rfl) (And.intro (Exists.intro a6_3 (And.intro rfl l7)) (And.intro rfl (And.intro n8 True.intro))) H

/-! 145 -/
noncomputable def H145_j4 (k : KV)   (h : Heap) (nx : Nat) : Bool :=
  k (.int .i64 (.ofNat 0)) h nx
noncomputable def H145_j12 (k : KV) (ih9 : Value → Value → Heap → Nat → Bool)  (h : Heap) (nx : Nat) : Bool :=
  false
noncomputable def H145_l9 (k : KV)  (n : Nat) : Value → Value → Heap → Nat → Bool :=
  Nat.rec (motive := fun _ => Value → Value → Heap → Nat → Bool) (fun _ _ _ _ => false) (fun _ ih9 a35_10 a36_10 h nx => binK Tryz.prog .lss 3 (.tmp 36) (.tmp 35) a36_10 a35_10 fun v37_11 =>
  hIf v37_11 (fun _ => false) (fun _ => H145_j4 k   h nx)) n
noncomputable def H145_j2 (k : KV)  (a1_3 : Value) (h : Heap) (nx : Nat) : Bool :=
  hFieldAddr Tryz.prog 34 a1_3 1 fun v33_6 =>
  loadK Tryz.prog 32 v33_6 h fun v34_7 =>
  lenK Tryz.prog 32 v34_7 h fun v35_8 =>
  H145_l9 k  200000 v35_8 (.int .i64 (.ofNat 0)) h nx
noncomputable def H145_j22 (k : KV) (ih17 : Value → Value → Value → Value → Heap → Nat → Bool) (a1_23 : Value) (a8_23 : Value) (a9_23 : Value) (a10_23 : Value) (h : Heap) (nx : Nat) : Bool :=
  binK Tryz.prog .add 3 (.tmp 10) (.const (.int .i64 (.ofNat 1))) a10_23 (.int .i64 (.ofNat 1)) fun v32_24 =>
  ih17 a1_23 a8_23 a9_23 v32_24 h nx
noncomputable def H145_g33 (k : KV) (ih17 : Value → Value → Value → Value → Heap → Nat → Bool) (a1_21 : Value) (a8_21 : Value) (a9_21 : Value) (a10_21 : Value) (v17_28 : Value) (o30_34 : Option Value) (h : Heap) (nx : Nat) : Bool :=
  hPick v17_28 (some (.bool true)) o30_34 fun v31_35 =>
  hIf v31_35 (fun _ => false) (fun _ => H145_j22 k ih17 a1_21 a8_21 a9_21 a10_21 h nx)
noncomputable def H145_g31 (k : KV) (ih17 : Value → Value → Value → Value → Heap → Nat → Bool) (a1_21 : Value) (a8_21 : Value) (a9_21 : Value) (a10_21 : Value) (v17_28 : Value) (o21_30 : Option Value) (o22_32 : Option Value) (o23_32 : Option Value) (o24_32 : Option Value) (o25_32 : Option Value) (o26_32 : Option Value) (o27_32 : Option Value) (o28_32 : Option Value) (o29_32 : Option Value) (h : Heap) (nx : Nat) : Bool :=
  hG (some v17_28) false (fun _ => optK o21_30 fun v21_36 =>
  hPick v21_36 o29_32 (some (.bool false)) fun v30_37 =>
  H145_g33 k ih17 a1_21 a8_21 a9_21 a10_21 v17_28 (some v30_37) h nx) (fun _ => H145_g33 k ih17 a1_21 a8_21 a9_21 a10_21 v17_28 none h nx)
noncomputable def H145_g29 (k : KV) (ih17 : Value → Value → Value → Value → Heap → Nat → Bool) (a1_21 : Value) (a10_21 : Value) (v14_26 : Value) (a8_21 : Value) (a9_21 : Value) (v17_28 : Value) (o19_30 : Option Value) (o20_30 : Option Value) (o21_30 : Option Value) (h : Heap) (nx : Nat) : Bool :=
  hG o21_30 true (fun _ => false) (fun _ => H145_g31 k ih17 a1_21 a8_21 a9_21 a10_21 v17_28 o21_30 none none none none none none none none h nx)
noncomputable def H145_j20 (k : KV) (ih17 : Value → Value → Value → Value → Heap → Nat → Bool) (a1_21 : Value) (a8_21 : Value) (a9_21 : Value) (a10_21 : Value) (h : Heap) (nx : Nat) : Bool :=
  hIndexAddr Tryz.prog 31 a8_21 a10_21 fun v13_25 =>
  loadK Tryz.prog 3 v13_25 h fun v14_26 =>
  H84 v14_26 h nx fun v16_27 h27 nx27 =>
  hUn Tryz.prog .not v16_27 fun v17_28 =>
  hG (some v17_28) false (fun _ => binK Tryz.prog .gtr 3 (.tmp 19) (.const (.int .i64 (.ofNat 0))) a10_21 (.int .i64 (.ofNat 0)) fun v20_38 =>
  H145_g29 k ih17 a1_21 a10_21 v14_26 a8_21 a9_21 v17_28 (some a10_21) (some v20_38) (some v20_38) h27 nx27) (fun _ => H145_g29 k ih17 a1_21 a10_21 v14_26 a8_21 a9_21 v17_28 none none none h27 nx27)
noncomputable def H145_l17 (k : KV)  (n : Nat) : Value → Value → Value → Value → Heap → Nat → Bool :=
  Nat.rec (motive := fun _ => Value → Value → Value → Value → Heap → Nat → Bool) (fun _ _ _ _ _ _ => false) (fun _ ih17 a1_18 a8_18 a9_18 a10_18 h nx => binK Tryz.prog .lss 3 (.tmp 10) (.tmp 9) a10_18 a9_18 fun v11_19 =>
  hIf v11_19 (fun _ => H145_j20 k ih17 a1_18 a8_18 a9_18 a10_18 h nx) (fun _ => H145_j2 k  a1_18 h nx)) n
noncomputable def H145 (a0 : Value) (h : Heap) (nx : Nat) (k : KV) : Bool :=
  hBox a0 h nx fun v1_1 h1 nx1 =>
  hFieldAddr Tryz.prog 34 v1_1 0 fun v7_14 =>
  loadK Tryz.prog 31 v7_14 h1 fun v8_15 =>
  lenK Tryz.prog 31 v8_15 h1 fun v9_16 =>
  H145_l17 k  200000 v1_1 v8_15 v9_16 (.int .i64 (.ofNat 0)) h1 nx1
theorem sim145 {a0 : Value} {h : Heap} {nx : Nat} {k : KV} (H : H145 a0 h nx k = true) : ∃ v h' nx', k v h' nx' = true ∧ CallSim Tryz.prog 145 [a0] h nx v h' nx' := by
  refine fn_rule Tryz.func145 rfl rfl ?_
  refine CJ.seq ?_
  refine CJ.region ?_
  refine OJ.fu rfl rfl rfl (r_box rfl rfl H) ?_
  intro v1_1 h1 nx1 H
  refine OJ.mv rfl rfl rfl (r_assign rfl rfl) ?_
  refine OJ.fin ?_
  refine CJ.seq (CJ.cut (X := Value × Unit) (fun x h nx => H145_j2 k  x.1 h nx) (fun x => [(1, some x.1)]) ?_ ?_)
  · refine CJ.seq ?_
    refine CJ.region ?_
    refine OJ.rd rfl rfl rfl (r_fieldAddr rfl rfl H) ?_
    intro v7_14 H
    refine OJ.rd rfl rfl rfl (r_load rfl rfl H) ?_
    intro v8_15 H
    refine OJ.rd rfl rfl rfl (r_len (x := default) rfl rfl (And.intro rfl True.intro) rfl H) ?_
    intro v9_16 H
    refine OJ.mv rfl rfl rfl (r_move rfl rfl) ?_
    refine OJ.fin ?_
    refine CJ.block ?_
    refine CJ.weaken [(1, (some v1_1)), (8, (some v8_15)), (9, (some v9_16)), (10, (some (.int .i64 (.ofNat 0))))] (And.intro rfl (And.intro rfl (And.intro rfl (And.intro rfl True.intro)))) ?_
    refine CJ.loop_ind (X := Value × Value × Value × Value × Unit) (fun n x h nx => H145_l17 k  n x.1 x.2.1 x.2.2.1 x.2.2.2.1 h nx) (fun x => [(1, some x.1), (8, some x.2.1), (9, some x.2.2.1), (10, some x.2.2.2.1)]) (fun _ _ _ => rfl) ?_ 200000 (v1_1, v8_15, v9_16, (.int .i64 (.ofNat 0)), ()) _ _ H
    intro ih17n ih17p ⟨a1_18, a8_18, a9_18, a10_18, _u⟩ h nx H
    let ih17 := H145_l17 k  ih17n
    refine CJ.seq ?_
    refine CJ.region ?_
    refine OJ.rd rfl rfl rfl (r_bin rfl rfl rfl H) ?_
    intro v11_19 H
    refine OJ.fin ?_
    refine CJ.seq (CJ.cut (X := Value × Value × Value × Value × Unit) (fun x h nx => H145_j20 k ih17 x.1 x.2.1 x.2.2.1 x.2.2.2.1 h nx) (fun x => [(1, some x.1), (8, some x.2.1), (9, some x.2.2.1), (10, some x.2.2.2.1)]) ?_ ?_)
    · refine CJ.ite rfl H (fun H => ?_) (fun H => ?_)
      · exact CJ.skip [(1, (some a1_18)), (8, (some a8_18)), (9, (some a9_18)), (10, (some a10_18))] (And.intro rfl (And.intro rfl (And.intro rfl (And.intro rfl True.intro)))) (Exists.intro (a1_18, a8_18, a9_18, a10_18, ()) (And.intro rfl H))
      · exact CJ.exit [(1, (some a1_18))] (And.intro rfl True.intro) (Exists.intro (a1_18, ()) (And.intro rfl H))
    · intro ⟨a1_21, a8_21, a9_21, a10_21, _u⟩ h nx H
      refine CJ.seq (CJ.cut (X := Value × Value × Value × Value × Unit) (fun x h nx => H145_j22 k ih17 x.1 x.2.1 x.2.2.1 x.2.2.2.1 h nx) (fun x => [(1, some x.1), (8, some x.2.1), (9, some x.2.2.1), (10, some x.2.2.2.1)]) ?_ ?_)
      · refine CJ.block ?_
        refine CJ.seq ?_
        refine CJ.region ?_
        refine OJ.mv rfl rfl rfl (r_move rfl rfl) ?_
        refine OJ.rd rfl rfl rfl (r_indexAddr rfl rfl rfl H) ?_
        intro v13_25 H
        refine OJ.rd rfl rfl rfl (r_load rfl rfl H) ?_
        intro v14_26 H
        refine OJ.mv rfl rfl rfl (r_assign rfl rfl) ?_
        refine OJ.mv rfl rfl rfl (r_assign rfl rfl) ?_
        refine OJ.fin ?_
        refine CJ.seq ?_
        refine CJ.region ?_
        refine OJ.mv rfl rfl rfl (r_move rfl rfl) ?_
        refine OJ.fu rfl rfl rfl (r_call (args := [v14_26]) rfl rfl rfl (And.intro rfl True.intro) Tryz.call84 (sim84 H)) ?_
        intro v16_27 h27 nx27 H
        refine OJ.rd rfl rfl rfl (r_un rfl rfl H) ?_
        intro v17_28 H
        refine OJ.mv rfl rfl rfl (r_move rfl rfl) ?_
        refine OJ.cut (X := Option Value × Option Value × Option Value × Unit) 3 (fun x h nx => H145_g29 k ih17 a1_21 a10_21 v14_26 a8_21 a9_21 v17_28 x.1 x.2.1 x.2.2.1 h nx) (fun x => [(19, x.1), (20, x.2.1), (21, x.2.2.1), (1, (some a1_21)), (3, (some a10_21)), (4, (some v14_26)), (8, (some a8_21)), (9, (some a9_21)), (10, (some a10_21)), (18, (some v17_28))]) ?_ (fun next => ?_)
        · intro ⟨o19_30, o20_30, o21_30, _u⟩ h nx H
          refine OJ.cut (X := Option Value × Option Value × Option Value × Option Value × Option Value × Option Value × Option Value × Option Value × Unit) 8 (fun x h nx => H145_g31 k ih17 a1_21 a8_21 a9_21 a10_21 v17_28 o21_30 x.1 x.2.1 x.2.2.1 x.2.2.2.1 x.2.2.2.2.1 x.2.2.2.2.2.1 x.2.2.2.2.2.2.1 x.2.2.2.2.2.2.2.1 h nx) (fun x => [(22, x.1), (23, x.2.1), (24, x.2.2.1), (25, x.2.2.2.1), (26, x.2.2.2.2.1), (27, x.2.2.2.2.2.1), (28, x.2.2.2.2.2.2.1), (29, x.2.2.2.2.2.2.2.1), (1, (some a1_21)), (8, (some a8_21)), (9, (some a9_21)), (10, (some a10_21)), (18, (some v17_28)), (21, o21_30)]) ?_ (fun next => ?_)
          · intro ⟨o22_32, o23_32, o24_32, o25_32, o26_32, o27_32, o28_32, o29_32, _u⟩ h nx H
            refine OJ.cut (X := Option Value × Unit) 1 (fun x h nx => H145_g33 k ih17 a1_21 a8_21 a9_21 a10_21 v17_28 x.1 h nx) (fun x => [(30, x.1), (1, (some a1_21)), (8, (some a8_21)), (9, (some a9_21)), (10, (some a10_21)), (18, (some v17_28))]) ?_ (fun next => ?_)
            · intro ⟨o30_34, _u⟩ h nx H
              refine OJ.rd rfl rfl rfl (r_pick rfl rfl rfl rfl H) ?_
              intro v31_35 H
              refine OJ.fin ?_
              refine CJ.ite rfl H (fun H => ?_) (fun H => ?_)
              · cases H
              · exact CJ.skip [(1, (some a1_21)), (8, (some a8_21)), (9, (some a9_21)), (10, (some a10_21))] (And.intro rfl (And.intro rfl (And.intro rfl (And.intro rfl True.intro)))) (Exists.intro (a1_21, a8_21, a9_21, a10_21, ()) (And.intro rfl H))
            · rcases hG_true H with ⟨g, H⟩ | ⟨g, H⟩
              · obtain ⟨v21_36, eq_, G_⟩ := optK_true H
                clear H
                subst eq_
                have H := G_
                clear G_
                refine OJ.grd rfl rfl rfl g rfl rfl (r_pick rfl rfl rfl rfl H) ?_
                intro v30_37 H
                exact OJ.weaken [(30, (some v30_37)), (1, (some a1_21)), (8, (some a8_21)), (9, (some a9_21)), (10, (some a10_21)), (18, (some v17_28))] (And.intro rfl (And.intro rfl (And.intro rfl (And.intro rfl (And.intro rfl (And.intro rfl True.intro)))))) (next ((some v30_37), ()) _ _ H)
              · refine OJ.no rfl rfl rfl g rfl rfl ?_
                exact OJ.weaken [(30, none), (1, (some a1_21)), (8, (some a8_21)), (9, (some a9_21)), (10, (some a10_21)), (18, (some v17_28))] (And.intro rfl (And.intro rfl (And.intro rfl (And.intro rfl (And.intro rfl (And.intro rfl True.intro)))))) (next (none, ()) _ _ H)
          · rcases hG_true H with ⟨g, H⟩ | ⟨g, H⟩
            · cases H
            · refine OJ.no rfl rfl rfl g rfl rfl ?_
              refine OJ.no rfl rfl rfl g rfl rfl ?_
              refine OJ.no rfl rfl rfl g rfl rfl ?_
              refine OJ.no rfl rfl rfl g rfl rfl ?_
              refine OJ.no rfl rfl rfl g rfl rfl ?_
              refine OJ.no rfl rfl rfl g rfl rfl ?_
              refine OJ.no rfl rfl rfl g rfl rfl ?_
              refine OJ.no rfl rfl rfl g rfl rfl ?_
              exact OJ.weaken [(22, none), (23, none), (24, none), (25, none), (26, none), (27, none), (28, none), (29, none), (1, (some a1_21)), (8, (some a8_21)), (9, (some a9_21)), (10, (some a10_21)), (18, (some v17_28)), (21, o21_30)] (And.intro rfl (And.intro rfl (And.intro rfl (And.intro rfl (And.intro rfl (And.intro rfl (And.intro rfl (And.intro rfl (And.intro rfl (And.intro rfl (And.intro rfl (And.intro rfl (And.intro rfl (And.intro rfl True.intro)))))))))))))) (next (none, none, none, none, none, none, none, none, ()) _ _ H)
        · rcases hG_true H with ⟨g, H⟩ | ⟨g, H⟩
          · refine OJ.gmv rfl rfl rfl g rfl rfl (r_move rfl rfl) ?_
            refine OJ.grd rfl rfl rfl g rfl rfl (r_bin rfl rfl rfl H) ?_
            intro v20_38 H
            refine OJ.gmv rfl rfl rfl g rfl rfl (r_move rfl rfl) ?_
            exact OJ.weaken [(19, (some a10_21)), (20, (some v20_38)), (21, (some v20_38)), (1, (some a1_21)), (3, (some a10_21)), (4, (some v14_26)), (8, (some a8_21)), (9, (some a9_21)), (10, (some a10_21)), (18, (some v17_28))] (And.intro rfl (And.intro rfl (And.intro rfl (And.intro rfl (And.intro rfl (And.intro rfl (And.intro rfl (And.intro rfl (And.intro rfl (And.intro rfl True.intro)))))))))) (next ((some a10_21), (some v20_38), (some v20_38), ()) _ _ H)
          · refine OJ.no rfl rfl rfl g rfl rfl ?_
            refine OJ.no rfl rfl rfl g rfl rfl ?_
            refine OJ.no rfl rfl rfl g rfl rfl ?_
            exact OJ.weaken [(19, none), (20, none), (21, none), (1, (some a1_21)), (3, (some a10_21)), (4, (some v14_26)), (8, (some a8_21)), (9, (some a9_21)), (10, (some a10_21)), (18, (some v17_28))] (And.intro rfl (And.intro rfl (And.intro rfl (And.intro rfl (And.intro rfl (And.intro rfl (And.intro rfl (And.intro rfl (And.intro rfl (And.intro rfl True.intro)))))))))) (next (none, none, none, ()) _ _ H)
      · intro ⟨a1_23, a8_23, a9_23, a10_23, _u⟩ h nx H
        refine CJ.region ?_
        refine OJ.rd rfl rfl rfl (r_bin rfl rfl rfl H) ?_
        intro v32_24 H
        refine OJ.mv rfl rfl rfl (r_move rfl rfl) ?_
        exact OJ.done [(1, (some a1_23)), (8, (some a8_23)), (9, (some a9_23)), (10, (some v32_24))] (And.intro rfl (And.intro rfl (And.intro rfl (And.intro rfl True.intro)))) (ih17p (a1_23, a8_23, a9_23, v32_24, ()) _ _ H)
  · intro ⟨a1_3, _u⟩ h nx H
    refine CJ.seq (CJ.cut (X := Unit) (fun x h nx => H145_j4 k   h nx) (fun x => []) ?_ ?_)
    · refine CJ.seq ?_
      refine CJ.region ?_
      refine OJ.rd rfl rfl rfl (r_fieldAddr rfl rfl H) ?_
      intro v33_6 H
      refine OJ.rd rfl rfl rfl (r_load rfl rfl H) ?_
      intro v34_7 H
      refine OJ.rd rfl rfl rfl (r_len (x := default) rfl rfl (And.intro rfl True.intro) rfl H) ?_
      intro v35_8 H
      refine OJ.mv rfl rfl rfl (r_move rfl rfl) ?_
      refine OJ.fin ?_
      refine CJ.block ?_
      refine CJ.weaken [(35, (some v35_8)), (36, (some (.int .i64 (.ofNat 0))))] (And.intro rfl (And.intro rfl True.intro)) ?_
      refine CJ.loop_ind (X := Value × Value × Unit) (fun n x h nx => H145_l9 k  n x.1 x.2.1 h nx) (fun x => [(35, some x.1), (36, some x.2.1)]) (fun _ _ _ => rfl) ?_ 200000 (v35_8, (.int .i64 (.ofNat 0)), ()) _ _ H
      intro ih9n ih9p ⟨a35_10, a36_10, _u⟩ h nx H
      let ih9 := H145_l9 k  ih9n
      refine CJ.seq ?_
      refine CJ.region ?_
      refine OJ.rd rfl rfl rfl (r_bin rfl rfl rfl H) ?_
      intro v37_11 H
      refine OJ.fin ?_
      refine CJ.seq (CJ.cut (X := Unit) (fun x h nx => H145_j12 k ih9  h nx) (fun x => []) ?_ ?_)
      · refine CJ.ite rfl H (fun H => ?_) (fun H => ?_)
        · cases H
        · exact CJ.exit [] True.intro (Exists.intro () (And.intro rfl H))
      · intro _u h nx H
        cases H
    · intro _u h nx H
      refine CJ.seq ?_
      refine CJ.region ?_
      refine OJ.mv rfl rfl rfl (r_assign rfl rfl) ?_
      refine OJ.fin ?_
      refine CJ.ret1 ?_
      exact ret_one (Or.inr rfl) rfl rfl H

/-! 169 -/
noncomputable def H169_j3 (k : KV)  (a0_4 : Value) (h : Heap) (nx : Nat) : Bool :=
  k a0_4 h nx
noncomputable def H169_j1 (k : KV)  (a0_2 : Value) (a1_2 : Value) (h : Heap) (nx : Nat) : Bool :=
  capK Tryz.prog 31 a0_2 fun v10_5 =>
  lenK Tryz.prog 31 a0_2 h fun v12_6 =>
  binK Tryz.prog .sub 3 (.tmp 10) (.tmp 12) v10_5 v12_6 fun v13_7 =>
  binK Tryz.prog .sub 3 (.tmp 8) (.tmp 13) a1_2 v13_7 fun v14_8 =>
  binK Tryz.prog .gtr 3 (.tmp 15) (.const (.int .i64 (.ofNat 0))) v14_8 (.int .i64 (.ofNat 0)) fun v16_9 =>
  hIf v16_9 (fun _ => capK Tryz.prog 31 a0_2 fun v19_10 =>
  hSlice Tryz.prog h 31 a0_2 none (some v19_10) none fun v20_11 =>
  hAppend Tryz.prog 31 3 v20_11 v14_8 h nx fun v22_12 h12 nx12 =>
  lenK Tryz.prog 31 a0_2 h12 fun v24_13 =>
  hSlice Tryz.prog h12 31 v22_12 none (some v24_13) none fun v25_14 =>
  H169_j3 k  v25_14 h12 nx12) (fun _ => false)
noncomputable def H169 (a0 : Value) (a1 : Value) (h : Heap) (nx : Nat) (k : KV) : Bool :=
  binK Tryz.prog .lss 3 (.tmp 5) (.const (.int .i64 (.ofNat 0))) a1 (.int .i64 (.ofNat 0)) fun v6_15 =>
  hIf v6_15 (fun _ => false) (fun _ => H169_j1 k  a0 a1 h nx)
theorem sim169 {a0 a1 : Value} {h : Heap} {nx : Nat} {k : KV} (H : H169 a0 a1 h nx k = true) : ∃ v h' nx', k v h' nx' = true ∧ CallSim Tryz.prog 169 [a0, a1] h nx v h' nx' := by
  refine fn_rule Tryz.func169 rfl rfl ?_
  refine CJ.seq ?_
  refine CJ.region ?_
  refine OJ.mv rfl rfl rfl (r_assign rfl rfl) ?_
  refine OJ.fin ?_
  refine CJ.seq (CJ.cut (X := Value × Value × Unit) (fun x h nx => H169_j1 k  x.1 x.2.1 h nx) (fun x => [(0, some x.1), (1, some x.2.1)]) ?_ ?_)
  · refine CJ.seq ?_
    refine CJ.region ?_
    refine OJ.mv rfl rfl rfl (r_move rfl rfl) ?_
    refine OJ.rd rfl rfl rfl (r_bin rfl rfl rfl H) ?_
    intro v6_15 H
    refine OJ.fin ?_
    refine CJ.ite rfl H (fun H => ?_) (fun H => ?_)
    · cases H
    · exact CJ.skip [(0, (some a0)), (1, (some a1))] (And.intro rfl (And.intro rfl True.intro)) (Exists.intro (a0, a1, ()) (And.intro rfl H))
  · intro ⟨a0_2, a1_2, _u⟩ h nx H
    refine CJ.seq (CJ.cut (X := Value × Unit) (fun x h nx => H169_j3 k  x.1 h nx) (fun x => [(0, some x.1)]) ?_ ?_)
    · refine CJ.seq ?_
      refine CJ.region ?_
      refine OJ.mv rfl rfl rfl (r_move rfl rfl) ?_
      refine OJ.mv rfl rfl rfl (r_move rfl rfl) ?_
      refine OJ.rd rfl rfl rfl (r_cap (x := default) rfl rfl (And.intro rfl True.intro) rfl H) ?_
      intro v10_5 H
      refine OJ.mv rfl rfl rfl (r_move rfl rfl) ?_
      refine OJ.rd rfl rfl rfl (r_len (x := default) rfl rfl (And.intro rfl True.intro) rfl H) ?_
      intro v12_6 H
      refine OJ.rd rfl rfl rfl (r_bin rfl rfl rfl H) ?_
      intro v13_7 H
      refine OJ.rd rfl rfl rfl (r_bin rfl rfl rfl H) ?_
      intro v14_8 H
      refine OJ.mv rfl rfl rfl (r_assign rfl rfl) ?_
      refine OJ.fin ?_
      refine CJ.seq ?_
      refine CJ.region ?_
      refine OJ.mv rfl rfl rfl (r_move rfl rfl) ?_
      refine OJ.rd rfl rfl rfl (r_bin rfl rfl rfl H) ?_
      intro v16_9 H
      refine OJ.fin ?_
      refine CJ.ite rfl H (fun H => ?_) (fun H => ?_)
      · refine CJ.region ?_
        refine OJ.mv rfl rfl rfl (r_move rfl rfl) ?_
        refine OJ.mv rfl rfl rfl (r_move rfl rfl) ?_
        refine OJ.rd rfl rfl rfl (r_cap (x := default) rfl rfl (And.intro rfl True.intro) rfl H) ?_
        intro v19_10 H
        refine OJ.rd rfl rfl rfl (r_slice (lo' := none) (hi' := some v19_10) (mx' := none) rfl rfl True.intro rfl True.intro H) ?_
        intro v20_11 H
        refine OJ.mv rfl rfl rfl (r_move rfl rfl) ?_
        refine OJ.fu rfl rfl rfl (r_append1 rfl rfl (And.intro rfl (And.intro rfl True.intro)) rfl H) ?_
        intro v22_12 h12 nx12 H
        refine OJ.mv rfl rfl rfl (r_move rfl rfl) ?_
        refine OJ.rd rfl rfl rfl (r_len (x := default) rfl rfl (And.intro rfl True.intro) rfl H) ?_
        intro v24_13 H
        refine OJ.rd rfl rfl rfl (r_slice (lo' := none) (hi' := some v24_13) (mx' := none) rfl rfl True.intro rfl True.intro H) ?_
        intro v25_14 H
        refine OJ.mv rfl rfl rfl (r_assign rfl rfl) ?_
        exact OJ.done [(0, (some v25_14))] (And.intro rfl True.intro) (Exists.intro (v25_14, ()) (And.intro rfl H))
      · cases H
    · intro ⟨a0_4, _u⟩ h nx H
      refine CJ.seq ?_
      refine CJ.region ?_
      refine OJ.mv rfl rfl rfl (r_move rfl rfl) ?_
      refine OJ.mv rfl rfl rfl (r_assign rfl rfl) ?_
      refine OJ.fin ?_
      refine CJ.ret1 ?_
      exact ret_one (Or.inr rfl) rfl rfl H

/-! 152 -/
noncomputable def H152_j4 (k : KV)  (a6_5 : Value) (h : Heap) (nx : Nat) : Bool :=
  k a6_5 h nx
noncomputable def H152_j12 (k : KV) (ih7 : Value → Value → Value → Value → Heap → Nat → Bool) (a6_13 : Value) (a25_13 : Value) (a26_13 : Value) (a27_13 : Value) (h : Heap) (nx : Nat) : Bool :=
  binK Tryz.prog .add 3 (.tmp 27) (.const (.int .i64 (.ofNat 1))) a27_13 (.int .i64 (.ofNat 1)) fun v34_14 =>
  ih7 a6_13 a25_13 a26_13 v34_14 h nx
noncomputable def H152_j10 (k : KV) (ih7 : Value → Value → Value → Value → Heap → Nat → Bool) (a6_11 : Value) (a25_11 : Value) (a26_11 : Value) (a27_11 : Value) (h : Heap) (nx : Nat) : Bool :=
  hIndexAddr Tryz.prog 258 a25_11 a27_11 fun v29_15 =>
  loadK Tryz.prog 31 v29_15 h fun v30_16 =>
  hAppend Tryz.prog 31 31 a6_11 v30_16 h nx fun v33_17 h17 nx17 =>
  H152_j12 k ih7 v33_17 a25_11 a26_11 a27_11 h17 nx17
noncomputable def H152_l7 (k : KV)  (n : Nat) : Value → Value → Value → Value → Heap → Nat → Bool :=
  Nat.rec (motive := fun _ => Value → Value → Value → Value → Heap → Nat → Bool) (fun _ _ _ _ _ _ => false) (fun _ ih7 a6_8 a25_8 a26_8 a27_8 h nx => binK Tryz.prog .lss 3 (.tmp 27) (.tmp 26) a27_8 a26_8 fun v28_9 =>
  hIf v28_9 (fun _ => H152_j10 k ih7 a6_8 a25_8 a26_8 a27_8 h nx) (fun _ => H152_j4 k  a6_8 h nx)) n
noncomputable def H152_j1 (k : KV)  (a0_2 : Value) (a3_2 : Value) (h : Heap) (nx : Nat) : Bool :=
  H169 (.slice none 0 0) a3_2 h nx fun v24_3 h3 nx3 =>
  lenK Tryz.prog 258 a0_2 h3 fun v26_6 =>
  H152_l7 k  200000 v24_3 a0_2 v26_6 (.int .i64 (.ofNat 0)) h3 nx3
noncomputable def H152_j24 (k : KV) (ih19 : Value → Value → Value → Value → Value → Heap → Nat → Bool) (a0_25 : Value) (a3_25 : Value) (a9_25 : Value) (a10_25 : Value) (a11_25 : Value) (h : Heap) (nx : Nat) : Bool :=
  binK Tryz.prog .add 3 (.tmp 11) (.const (.int .i64 (.ofNat 1))) a11_25 (.int .i64 (.ofNat 1)) fun v22_26 =>
  ih19 a0_25 a3_25 a9_25 a10_25 v22_26 h nx
noncomputable def H152_j22 (k : KV) (ih19 : Value → Value → Value → Value → Value → Heap → Nat → Bool) (a0_23 : Value) (a3_23 : Value) (a9_23 : Value) (a10_23 : Value) (a11_23 : Value) (h : Heap) (nx : Nat) : Bool :=
  hIndexAddr Tryz.prog 258 a9_23 a11_23 fun v13_27 =>
  loadK Tryz.prog 31 v13_27 h fun v14_28 =>
  lenK Tryz.prog 31 v14_28 h fun v17_29 =>
  binK Tryz.prog .add 3 (.tmp 15) (.tmp 17) a3_23 v17_29 fun v18_30 =>
  binK Tryz.prog .lss 3 (.tmp 19) (.const (.int .i64 (.ofNat 0))) v18_30 (.int .i64 (.ofNat 0)) fun v20_31 =>
  hIf v20_31 (fun _ => false) (fun _ => H152_j24 k ih19 a0_23 v18_30 a9_23 a10_23 a11_23 h nx)
noncomputable def H152_l19 (k : KV)  (n : Nat) : Value → Value → Value → Value → Value → Heap → Nat → Bool :=
  Nat.rec (motive := fun _ => Value → Value → Value → Value → Value → Heap → Nat → Bool) (fun _ _ _ _ _ _ _ => false) (fun _ ih19 a0_20 a3_20 a9_20 a10_20 a11_20 h nx => binK Tryz.prog .lss 3 (.tmp 11) (.tmp 10) a11_20 a10_20 fun v12_21 =>
  hIf v12_21 (fun _ => H152_j22 k ih19 a0_20 a3_20 a9_20 a10_20 a11_20 h nx) (fun _ => H152_j1 k  a0_20 a3_20 h nx)) n
noncomputable def H152 (a0 : Value) (h : Heap) (nx : Nat) (k : KV) : Bool :=
  lenK Tryz.prog 258 a0 h fun v10_18 =>
  H152_l19 k  200000 a0 (.int .i64 (.ofNat 0)) a0 v10_18 (.int .i64 (.ofNat 0)) h nx
theorem sim152 {a0 : Value} {h : Heap} {nx : Nat} {k : KV} (H : H152 a0 h nx k = true) : ∃ v h' nx', k v h' nx' = true ∧ CallSim Tryz.prog 152 [a0] h nx v h' nx' := by
  refine fn_rule Tryz.func152 rfl rfl ?_
  refine CJ.seq ?_
  refine CJ.region ?_
  refine OJ.mv rfl rfl rfl (r_assign rfl rfl) ?_
  refine OJ.fin ?_
  refine CJ.seq ?_
  refine CJ.region ?_
  refine OJ.mv rfl rfl rfl (r_assign rfl rfl) ?_
  refine OJ.fin ?_
  refine CJ.seq (CJ.cut (X := Value × Value × Unit) (fun x h nx => H152_j1 k  x.1 x.2.1 h nx) (fun x => [(0, some x.1), (3, some x.2.1)]) ?_ ?_)
  · refine CJ.seq ?_
    refine CJ.region ?_
    refine OJ.mv rfl rfl rfl (r_move rfl rfl) ?_
    refine OJ.rd rfl rfl rfl (r_len (x := default) rfl rfl (And.intro rfl True.intro) rfl H) ?_
    intro v10_18 H
    refine OJ.mv rfl rfl rfl (r_move rfl rfl) ?_
    refine OJ.fin ?_
    refine CJ.block ?_
    refine CJ.weaken [(0, (some a0)), (3, (some (.int .i64 (.ofNat 0)))), (9, (some a0)), (10, (some v10_18)), (11, (some (.int .i64 (.ofNat 0))))] (And.intro rfl (And.intro rfl (And.intro rfl (And.intro rfl (And.intro rfl True.intro))))) ?_
    refine CJ.loop_ind (X := Value × Value × Value × Value × Value × Unit) (fun n x h nx => H152_l19 k  n x.1 x.2.1 x.2.2.1 x.2.2.2.1 x.2.2.2.2.1 h nx) (fun x => [(0, some x.1), (3, some x.2.1), (9, some x.2.2.1), (10, some x.2.2.2.1), (11, some x.2.2.2.2.1)]) (fun _ _ _ => rfl) ?_ 200000 (a0, (.int .i64 (.ofNat 0)), a0, v10_18, (.int .i64 (.ofNat 0)), ()) _ _ H
    intro ih19n ih19p ⟨a0_20, a3_20, a9_20, a10_20, a11_20, _u⟩ h nx H
    let ih19 := H152_l19 k  ih19n
    refine CJ.seq ?_
    refine CJ.region ?_
    refine OJ.rd rfl rfl rfl (r_bin rfl rfl rfl H) ?_
    intro v12_21 H
    refine OJ.fin ?_
    refine CJ.seq (CJ.cut (X := Value × Value × Value × Value × Value × Unit) (fun x h nx => H152_j22 k ih19 x.1 x.2.1 x.2.2.1 x.2.2.2.1 x.2.2.2.2.1 h nx) (fun x => [(0, some x.1), (3, some x.2.1), (9, some x.2.2.1), (10, some x.2.2.2.1), (11, some x.2.2.2.2.1)]) ?_ ?_)
    · refine CJ.ite rfl H (fun H => ?_) (fun H => ?_)
      · exact CJ.skip [(0, (some a0_20)), (3, (some a3_20)), (9, (some a9_20)), (10, (some a10_20)), (11, (some a11_20))] (And.intro rfl (And.intro rfl (And.intro rfl (And.intro rfl (And.intro rfl True.intro))))) (Exists.intro (a0_20, a3_20, a9_20, a10_20, a11_20, ()) (And.intro rfl H))
      · exact CJ.exit [(0, (some a0_20)), (3, (some a3_20))] (And.intro rfl (And.intro rfl True.intro)) (Exists.intro (a0_20, a3_20, ()) (And.intro rfl H))
    · intro ⟨a0_23, a3_23, a9_23, a10_23, a11_23, _u⟩ h nx H
      refine CJ.seq (CJ.cut (X := Value × Value × Value × Value × Value × Unit) (fun x h nx => H152_j24 k ih19 x.1 x.2.1 x.2.2.1 x.2.2.2.1 x.2.2.2.2.1 h nx) (fun x => [(0, some x.1), (3, some x.2.1), (9, some x.2.2.1), (10, some x.2.2.2.1), (11, some x.2.2.2.2.1)]) ?_ ?_)
      · refine CJ.block ?_
        refine CJ.seq ?_
        refine CJ.region ?_
        refine OJ.rd rfl rfl rfl (r_indexAddr rfl rfl rfl H) ?_
        intro v13_27 H
        refine OJ.rd rfl rfl rfl (r_load rfl rfl H) ?_
        intro v14_28 H
        refine OJ.mv rfl rfl rfl (r_assign rfl rfl) ?_
        refine OJ.fin ?_
        refine CJ.seq ?_
        refine CJ.region ?_
        refine OJ.mv rfl rfl rfl (r_move rfl rfl) ?_
        refine OJ.mv rfl rfl rfl (r_move rfl rfl) ?_
        refine OJ.rd rfl rfl rfl (r_len (x := default) rfl rfl (And.intro rfl True.intro) rfl H) ?_
        intro v17_29 H
        refine OJ.rd rfl rfl rfl (r_bin rfl rfl rfl H) ?_
        intro v18_30 H
        refine OJ.mv rfl rfl rfl (r_assign rfl rfl) ?_
        refine OJ.fin ?_
        refine CJ.seq ?_
        refine CJ.region ?_
        refine OJ.mv rfl rfl rfl (r_move rfl rfl) ?_
        refine OJ.rd rfl rfl rfl (r_bin rfl rfl rfl H) ?_
        intro v20_31 H
        refine OJ.fin ?_
        refine CJ.ite rfl H (fun H => ?_) (fun H => ?_)
        · cases H
        · exact CJ.skip [(0, (some a0_23)), (3, (some v18_30)), (9, (some a9_23)), (10, (some a10_23)), (11, (some a11_23))] (And.intro rfl (And.intro rfl (And.intro rfl (And.intro rfl (And.intro rfl True.intro))))) (Exists.intro (a0_23, v18_30, a9_23, a10_23, a11_23, ()) (And.intro rfl H))
      · intro ⟨a0_25, a3_25, a9_25, a10_25, a11_25, _u⟩ h nx H
        refine CJ.region ?_
        refine OJ.rd rfl rfl rfl (r_bin rfl rfl rfl H) ?_
        intro v22_26 H
        refine OJ.mv rfl rfl rfl (r_move rfl rfl) ?_
        exact OJ.done [(0, (some a0_25)), (3, (some a3_25)), (9, (some a9_25)), (10, (some a10_25)), (11, (some v22_26))] (And.intro rfl (And.intro rfl (And.intro rfl (And.intro rfl (And.intro rfl True.intro))))) (ih19p (a0_25, a3_25, a9_25, a10_25, v22_26, ()) _ _ H)
  · intro ⟨a0_2, a3_2, _u⟩ h nx H
    refine CJ.seq ?_
    refine CJ.region ?_
    refine OJ.mv rfl rfl rfl (r_move rfl rfl) ?_
    refine OJ.fu rfl rfl rfl (r_call (args := [(.slice none 0 0), a3_2]) rfl rfl rfl (And.intro rfl (And.intro rfl True.intro)) Tryz.call169 (sim169 H)) ?_
    intro v24_3 h3 nx3 H
    refine OJ.mv rfl rfl rfl (r_assign rfl rfl) ?_
    refine OJ.fin ?_
    refine CJ.seq (CJ.cut (X := Value × Unit) (fun x h nx => H152_j4 k  x.1 h nx) (fun x => [(6, some x.1)]) ?_ ?_)
    · refine CJ.seq ?_
      refine CJ.region ?_
      refine OJ.mv rfl rfl rfl (r_move rfl rfl) ?_
      refine OJ.rd rfl rfl rfl (r_len (x := default) rfl rfl (And.intro rfl True.intro) rfl H) ?_
      intro v26_6 H
      refine OJ.mv rfl rfl rfl (r_move rfl rfl) ?_
      refine OJ.fin ?_
      refine CJ.block ?_
      refine CJ.weaken [(6, (some v24_3)), (25, (some a0_2)), (26, (some v26_6)), (27, (some (.int .i64 (.ofNat 0))))] (And.intro rfl (And.intro rfl (And.intro rfl (And.intro rfl True.intro)))) ?_
      refine CJ.loop_ind (X := Value × Value × Value × Value × Unit) (fun n x h nx => H152_l7 k  n x.1 x.2.1 x.2.2.1 x.2.2.2.1 h nx) (fun x => [(6, some x.1), (25, some x.2.1), (26, some x.2.2.1), (27, some x.2.2.2.1)]) (fun _ _ _ => rfl) ?_ 200000 (v24_3, a0_2, v26_6, (.int .i64 (.ofNat 0)), ()) _ _ H
      intro ih7n ih7p ⟨a6_8, a25_8, a26_8, a27_8, _u⟩ h nx H
      let ih7 := H152_l7 k  ih7n
      refine CJ.seq ?_
      refine CJ.region ?_
      refine OJ.rd rfl rfl rfl (r_bin rfl rfl rfl H) ?_
      intro v28_9 H
      refine OJ.fin ?_
      refine CJ.seq (CJ.cut (X := Value × Value × Value × Value × Unit) (fun x h nx => H152_j10 k ih7 x.1 x.2.1 x.2.2.1 x.2.2.2.1 h nx) (fun x => [(6, some x.1), (25, some x.2.1), (26, some x.2.2.1), (27, some x.2.2.2.1)]) ?_ ?_)
      · refine CJ.ite rfl H (fun H => ?_) (fun H => ?_)
        · exact CJ.skip [(6, (some a6_8)), (25, (some a25_8)), (26, (some a26_8)), (27, (some a27_8))] (And.intro rfl (And.intro rfl (And.intro rfl (And.intro rfl True.intro)))) (Exists.intro (a6_8, a25_8, a26_8, a27_8, ()) (And.intro rfl H))
        · exact CJ.exit [(6, (some a6_8))] (And.intro rfl True.intro) (Exists.intro (a6_8, ()) (And.intro rfl H))
      · intro ⟨a6_11, a25_11, a26_11, a27_11, _u⟩ h nx H
        refine CJ.seq (CJ.cut (X := Value × Value × Value × Value × Unit) (fun x h nx => H152_j12 k ih7 x.1 x.2.1 x.2.2.1 x.2.2.2.1 h nx) (fun x => [(6, some x.1), (25, some x.2.1), (26, some x.2.2.1), (27, some x.2.2.2.1)]) ?_ ?_)
        · refine CJ.block ?_
          refine CJ.seq ?_
          refine CJ.region ?_
          refine OJ.rd rfl rfl rfl (r_indexAddr rfl rfl rfl H) ?_
          intro v29_15 H
          refine OJ.rd rfl rfl rfl (r_load rfl rfl H) ?_
          intro v30_16 H
          refine OJ.mv rfl rfl rfl (r_assign rfl rfl) ?_
          refine OJ.fin ?_
          refine CJ.region ?_
          refine OJ.mv rfl rfl rfl (r_move rfl rfl) ?_
          refine OJ.mv rfl rfl rfl (r_move rfl rfl) ?_
          refine OJ.fu rfl rfl rfl (r_append1 rfl rfl (And.intro rfl (And.intro rfl True.intro)) rfl H) ?_
          intro v33_17 h17 nx17 H
          refine OJ.mv rfl rfl rfl (r_assign rfl rfl) ?_
          exact OJ.done [(6, (some v33_17)), (25, (some a25_11)), (26, (some a26_11)), (27, (some a27_11))] (And.intro rfl (And.intro rfl (And.intro rfl (And.intro rfl True.intro)))) (Exists.intro (v33_17, a25_11, a26_11, a27_11, ()) (And.intro rfl H))
        · intro ⟨a6_13, a25_13, a26_13, a27_13, _u⟩ h nx H
          refine CJ.region ?_
          refine OJ.rd rfl rfl rfl (r_bin rfl rfl rfl H) ?_
          intro v34_14 H
          refine OJ.mv rfl rfl rfl (r_move rfl rfl) ?_
          exact OJ.done [(6, (some a6_13)), (25, (some a25_13)), (26, (some a26_13)), (27, (some v34_14))] (And.intro rfl (And.intro rfl (And.intro rfl (And.intro rfl True.intro)))) (ih7p (a6_13, a25_13, a26_13, v34_14, ()) _ _ H)
    · intro ⟨a6_5, _u⟩ h nx H
      refine CJ.seq ?_
      refine CJ.region ?_
      refine OJ.mv rfl rfl rfl (r_move rfl rfl) ?_
      refine OJ.mv rfl rfl rfl (r_assign rfl rfl) ?_
      refine OJ.fin ?_
      refine CJ.ret1 ?_
      exact ret_one (Or.inr rfl) rfl rfl H

/-! 170 -/
noncomputable def H170_j3 (k : KV)  (a0_4 : Value) (h : Heap) (nx : Nat) : Bool :=
  k a0_4 h nx
noncomputable def H170_j1 (k : KV)  (a0_2 : Value) (a1_2 : Value) (h : Heap) (nx : Nat) : Bool :=
  capK Tryz.prog 32 a0_2 fun v10_5 =>
  lenK Tryz.prog 32 a0_2 h fun v12_6 =>
  binK Tryz.prog .sub 3 (.tmp 10) (.tmp 12) v10_5 v12_6 fun v13_7 =>
  binK Tryz.prog .sub 3 (.tmp 8) (.tmp 13) a1_2 v13_7 fun v14_8 =>
  binK Tryz.prog .gtr 3 (.tmp 15) (.const (.int .i64 (.ofNat 0))) v14_8 (.int .i64 (.ofNat 0)) fun v16_9 =>
  hIf v16_9 (fun _ => false) (fun _ => H170_j3 k  a0_2 h nx)
noncomputable def H170 (a0 : Value) (a1 : Value) (h : Heap) (nx : Nat) (k : KV) : Bool :=
  binK Tryz.prog .lss 3 (.tmp 5) (.const (.int .i64 (.ofNat 0))) a1 (.int .i64 (.ofNat 0)) fun v6_10 =>
  hIf v6_10 (fun _ => false) (fun _ => H170_j1 k  a0 a1 h nx)
theorem sim170 {a0 a1 : Value} {h : Heap} {nx : Nat} {k : KV} (H : H170 a0 a1 h nx k = true) : ∃ v h' nx', k v h' nx' = true ∧ CallSim Tryz.prog 170 [a0, a1] h nx v h' nx' := by
  refine fn_rule Tryz.func170 rfl rfl ?_
  refine CJ.seq ?_
  refine CJ.region ?_
  refine OJ.mv rfl rfl rfl (r_assign rfl rfl) ?_
  refine OJ.fin ?_
  refine CJ.seq (CJ.cut (X := Value × Value × Unit) (fun x h nx => H170_j1 k  x.1 x.2.1 h nx) (fun x => [(0, some x.1), (1, some x.2.1)]) ?_ ?_)
  · refine CJ.seq ?_
    refine CJ.region ?_
    refine OJ.mv rfl rfl rfl (r_move rfl rfl) ?_
    refine OJ.rd rfl rfl rfl (r_bin rfl rfl rfl H) ?_
    intro v6_10 H
    refine OJ.fin ?_
    refine CJ.ite rfl H (fun H => ?_) (fun H => ?_)
    · cases H
    · exact CJ.skip [(0, (some a0)), (1, (some a1))] (And.intro rfl (And.intro rfl True.intro)) (Exists.intro (a0, a1, ()) (And.intro rfl H))
  · intro ⟨a0_2, a1_2, _u⟩ h nx H
    refine CJ.seq (CJ.cut (X := Value × Unit) (fun x h nx => H170_j3 k  x.1 h nx) (fun x => [(0, some x.1)]) ?_ ?_)
    · refine CJ.seq ?_
      refine CJ.region ?_
      refine OJ.mv rfl rfl rfl (r_move rfl rfl) ?_
      refine OJ.mv rfl rfl rfl (r_move rfl rfl) ?_
      refine OJ.rd rfl rfl rfl (r_cap (x := default) rfl rfl (And.intro rfl True.intro) rfl H) ?_
      intro v10_5 H
      refine OJ.mv rfl rfl rfl (r_move rfl rfl) ?_
      refine OJ.rd rfl rfl rfl (r_len (x := default) rfl rfl (And.intro rfl True.intro) rfl H) ?_
      intro v12_6 H
      refine OJ.rd rfl rfl rfl (r_bin rfl rfl rfl H) ?_
      intro v13_7 H
      refine OJ.rd rfl rfl rfl (r_bin rfl rfl rfl H) ?_
      intro v14_8 H
      refine OJ.mv rfl rfl rfl (r_assign rfl rfl) ?_
      refine OJ.fin ?_
      refine CJ.seq ?_
      refine CJ.region ?_
      refine OJ.mv rfl rfl rfl (r_move rfl rfl) ?_
      refine OJ.rd rfl rfl rfl (r_bin rfl rfl rfl H) ?_
      intro v16_9 H
      refine OJ.fin ?_
      refine CJ.ite rfl H (fun H => ?_) (fun H => ?_)
      · cases H
      · exact CJ.skip [(0, (some a0_2))] (And.intro rfl True.intro) (Exists.intro (a0_2, ()) (And.intro rfl H))
    · intro ⟨a0_4, _u⟩ h nx H
      refine CJ.seq ?_
      refine CJ.region ?_
      refine OJ.mv rfl rfl rfl (r_move rfl rfl) ?_
      refine OJ.mv rfl rfl rfl (r_assign rfl rfl) ?_
      refine OJ.fin ?_
      refine CJ.ret1 ?_
      exact ret_one (Or.inr rfl) rfl rfl H

/-! 153 -/
noncomputable def H153_j4 (k : KV)  (a6_5 : Value) (h : Heap) (nx : Nat) : Bool :=
  k a6_5 h nx
noncomputable def H153_j12 (k : KV) (ih7 : Value → Value → Value → Value → Heap → Nat → Bool) (a6_13 : Value) (a25_13 : Value) (a26_13 : Value) (a27_13 : Value) (h : Heap) (nx : Nat) : Bool :=
  binK Tryz.prog .add 3 (.tmp 27) (.const (.int .i64 (.ofNat 1))) a27_13 (.int .i64 (.ofNat 1)) fun v34_14 =>
  ih7 a6_13 a25_13 a26_13 v34_14 h nx
noncomputable def H153_j10 (k : KV) (ih7 : Value → Value → Value → Value → Heap → Nat → Bool) (a6_11 : Value) (a25_11 : Value) (a26_11 : Value) (a27_11 : Value) (h : Heap) (nx : Nat) : Bool :=
  hIndexAddr Tryz.prog 260 a25_11 a27_11 fun v29_15 =>
  loadK Tryz.prog 32 v29_15 h fun v30_16 =>
  hAppend Tryz.prog 32 32 a6_11 v30_16 h nx fun v33_17 h17 nx17 =>
  H153_j12 k ih7 v33_17 a25_11 a26_11 a27_11 h17 nx17
noncomputable def H153_l7 (k : KV)  (n : Nat) : Value → Value → Value → Value → Heap → Nat → Bool :=
  Nat.rec (motive := fun _ => Value → Value → Value → Value → Heap → Nat → Bool) (fun _ _ _ _ _ _ => false) (fun _ ih7 a6_8 a25_8 a26_8 a27_8 h nx => binK Tryz.prog .lss 3 (.tmp 27) (.tmp 26) a27_8 a26_8 fun v28_9 =>
  hIf v28_9 (fun _ => H153_j10 k ih7 a6_8 a25_8 a26_8 a27_8 h nx) (fun _ => H153_j4 k  a6_8 h nx)) n
noncomputable def H153_j1 (k : KV)  (a0_2 : Value) (a3_2 : Value) (h : Heap) (nx : Nat) : Bool :=
  H170 (.slice none 0 0) a3_2 h nx fun v24_3 h3 nx3 =>
  lenK Tryz.prog 260 a0_2 h3 fun v26_6 =>
  H153_l7 k  200000 v24_3 a0_2 v26_6 (.int .i64 (.ofNat 0)) h3 nx3
noncomputable def H153_j24 (k : KV) (ih19 : Value → Value → Value → Value → Value → Heap → Nat → Bool) (a0_25 : Value) (a3_25 : Value) (a9_25 : Value) (a10_25 : Value) (a11_25 : Value) (h : Heap) (nx : Nat) : Bool :=
  binK Tryz.prog .add 3 (.tmp 11) (.const (.int .i64 (.ofNat 1))) a11_25 (.int .i64 (.ofNat 1)) fun v22_26 =>
  ih19 a0_25 a3_25 a9_25 a10_25 v22_26 h nx
noncomputable def H153_j22 (k : KV) (ih19 : Value → Value → Value → Value → Value → Heap → Nat → Bool) (a0_23 : Value) (a3_23 : Value) (a9_23 : Value) (a10_23 : Value) (a11_23 : Value) (h : Heap) (nx : Nat) : Bool :=
  hIndexAddr Tryz.prog 260 a9_23 a11_23 fun v13_27 =>
  loadK Tryz.prog 32 v13_27 h fun v14_28 =>
  lenK Tryz.prog 32 v14_28 h fun v17_29 =>
  binK Tryz.prog .add 3 (.tmp 15) (.tmp 17) a3_23 v17_29 fun v18_30 =>
  binK Tryz.prog .lss 3 (.tmp 19) (.const (.int .i64 (.ofNat 0))) v18_30 (.int .i64 (.ofNat 0)) fun v20_31 =>
  hIf v20_31 (fun _ => false) (fun _ => H153_j24 k ih19 a0_23 v18_30 a9_23 a10_23 a11_23 h nx)
noncomputable def H153_l19 (k : KV)  (n : Nat) : Value → Value → Value → Value → Value → Heap → Nat → Bool :=
  Nat.rec (motive := fun _ => Value → Value → Value → Value → Value → Heap → Nat → Bool) (fun _ _ _ _ _ _ _ => false) (fun _ ih19 a0_20 a3_20 a9_20 a10_20 a11_20 h nx => binK Tryz.prog .lss 3 (.tmp 11) (.tmp 10) a11_20 a10_20 fun v12_21 =>
  hIf v12_21 (fun _ => H153_j22 k ih19 a0_20 a3_20 a9_20 a10_20 a11_20 h nx) (fun _ => H153_j1 k  a0_20 a3_20 h nx)) n
noncomputable def H153 (a0 : Value) (h : Heap) (nx : Nat) (k : KV) : Bool :=
  lenK Tryz.prog 260 a0 h fun v10_18 =>
  H153_l19 k  200000 a0 (.int .i64 (.ofNat 0)) a0 v10_18 (.int .i64 (.ofNat 0)) h nx
theorem sim153 {a0 : Value} {h : Heap} {nx : Nat} {k : KV} (H : H153 a0 h nx k = true) : ∃ v h' nx', k v h' nx' = true ∧ CallSim Tryz.prog 153 [a0] h nx v h' nx' := by
  refine fn_rule Tryz.func153 rfl rfl ?_
  refine CJ.seq ?_
  refine CJ.region ?_
  refine OJ.mv rfl rfl rfl (r_assign rfl rfl) ?_
  refine OJ.fin ?_
  refine CJ.seq ?_
  refine CJ.region ?_
  refine OJ.mv rfl rfl rfl (r_assign rfl rfl) ?_
  refine OJ.fin ?_
  refine CJ.seq (CJ.cut (X := Value × Value × Unit) (fun x h nx => H153_j1 k  x.1 x.2.1 h nx) (fun x => [(0, some x.1), (3, some x.2.1)]) ?_ ?_)
  · refine CJ.seq ?_
    refine CJ.region ?_
    refine OJ.mv rfl rfl rfl (r_move rfl rfl) ?_
    refine OJ.rd rfl rfl rfl (r_len (x := default) rfl rfl (And.intro rfl True.intro) rfl H) ?_
    intro v10_18 H
    refine OJ.mv rfl rfl rfl (r_move rfl rfl) ?_
    refine OJ.fin ?_
    refine CJ.block ?_
    refine CJ.weaken [(0, (some a0)), (3, (some (.int .i64 (.ofNat 0)))), (9, (some a0)), (10, (some v10_18)), (11, (some (.int .i64 (.ofNat 0))))] (And.intro rfl (And.intro rfl (And.intro rfl (And.intro rfl (And.intro rfl True.intro))))) ?_
    refine CJ.loop_ind (X := Value × Value × Value × Value × Value × Unit) (fun n x h nx => H153_l19 k  n x.1 x.2.1 x.2.2.1 x.2.2.2.1 x.2.2.2.2.1 h nx) (fun x => [(0, some x.1), (3, some x.2.1), (9, some x.2.2.1), (10, some x.2.2.2.1), (11, some x.2.2.2.2.1)]) (fun _ _ _ => rfl) ?_ 200000 (a0, (.int .i64 (.ofNat 0)), a0, v10_18, (.int .i64 (.ofNat 0)), ()) _ _ H
    intro ih19n ih19p ⟨a0_20, a3_20, a9_20, a10_20, a11_20, _u⟩ h nx H
    let ih19 := H153_l19 k  ih19n
    refine CJ.seq ?_
    refine CJ.region ?_
    refine OJ.rd rfl rfl rfl (r_bin rfl rfl rfl H) ?_
    intro v12_21 H
    refine OJ.fin ?_
    refine CJ.seq (CJ.cut (X := Value × Value × Value × Value × Value × Unit) (fun x h nx => H153_j22 k ih19 x.1 x.2.1 x.2.2.1 x.2.2.2.1 x.2.2.2.2.1 h nx) (fun x => [(0, some x.1), (3, some x.2.1), (9, some x.2.2.1), (10, some x.2.2.2.1), (11, some x.2.2.2.2.1)]) ?_ ?_)
    · refine CJ.ite rfl H (fun H => ?_) (fun H => ?_)
      · exact CJ.skip [(0, (some a0_20)), (3, (some a3_20)), (9, (some a9_20)), (10, (some a10_20)), (11, (some a11_20))] (And.intro rfl (And.intro rfl (And.intro rfl (And.intro rfl (And.intro rfl True.intro))))) (Exists.intro (a0_20, a3_20, a9_20, a10_20, a11_20, ()) (And.intro rfl H))
      · exact CJ.exit [(0, (some a0_20)), (3, (some a3_20))] (And.intro rfl (And.intro rfl True.intro)) (Exists.intro (a0_20, a3_20, ()) (And.intro rfl H))
    · intro ⟨a0_23, a3_23, a9_23, a10_23, a11_23, _u⟩ h nx H
      refine CJ.seq (CJ.cut (X := Value × Value × Value × Value × Value × Unit) (fun x h nx => H153_j24 k ih19 x.1 x.2.1 x.2.2.1 x.2.2.2.1 x.2.2.2.2.1 h nx) (fun x => [(0, some x.1), (3, some x.2.1), (9, some x.2.2.1), (10, some x.2.2.2.1), (11, some x.2.2.2.2.1)]) ?_ ?_)
      · refine CJ.block ?_
        refine CJ.seq ?_
        refine CJ.region ?_
        refine OJ.rd rfl rfl rfl (r_indexAddr rfl rfl rfl H) ?_
        intro v13_27 H
        refine OJ.rd rfl rfl rfl (r_load rfl rfl H) ?_
        intro v14_28 H
        refine OJ.mv rfl rfl rfl (r_assign rfl rfl) ?_
        refine OJ.fin ?_
        refine CJ.seq ?_
        refine CJ.region ?_
        refine OJ.mv rfl rfl rfl (r_move rfl rfl) ?_
        refine OJ.mv rfl rfl rfl (r_move rfl rfl) ?_
        refine OJ.rd rfl rfl rfl (r_len (x := default) rfl rfl (And.intro rfl True.intro) rfl H) ?_
        intro v17_29 H
        refine OJ.rd rfl rfl rfl (r_bin rfl rfl rfl H) ?_
        intro v18_30 H
        refine OJ.mv rfl rfl rfl (r_assign rfl rfl) ?_
        refine OJ.fin ?_
        refine CJ.seq ?_
        refine CJ.region ?_
        refine OJ.mv rfl rfl rfl (r_move rfl rfl) ?_
        refine OJ.rd rfl rfl rfl (r_bin rfl rfl rfl H) ?_
        intro v20_31 H
        refine OJ.fin ?_
        refine CJ.ite rfl H (fun H => ?_) (fun H => ?_)
        · cases H
        · exact CJ.skip [(0, (some a0_23)), (3, (some v18_30)), (9, (some a9_23)), (10, (some a10_23)), (11, (some a11_23))] (And.intro rfl (And.intro rfl (And.intro rfl (And.intro rfl (And.intro rfl True.intro))))) (Exists.intro (a0_23, v18_30, a9_23, a10_23, a11_23, ()) (And.intro rfl H))
      · intro ⟨a0_25, a3_25, a9_25, a10_25, a11_25, _u⟩ h nx H
        refine CJ.region ?_
        refine OJ.rd rfl rfl rfl (r_bin rfl rfl rfl H) ?_
        intro v22_26 H
        refine OJ.mv rfl rfl rfl (r_move rfl rfl) ?_
        exact OJ.done [(0, (some a0_25)), (3, (some a3_25)), (9, (some a9_25)), (10, (some a10_25)), (11, (some v22_26))] (And.intro rfl (And.intro rfl (And.intro rfl (And.intro rfl (And.intro rfl True.intro))))) (ih19p (a0_25, a3_25, a9_25, a10_25, v22_26, ()) _ _ H)
  · intro ⟨a0_2, a3_2, _u⟩ h nx H
    refine CJ.seq ?_
    refine CJ.region ?_
    refine OJ.mv rfl rfl rfl (r_move rfl rfl) ?_
    refine OJ.fu rfl rfl rfl (r_call (args := [(.slice none 0 0), a3_2]) rfl rfl rfl (And.intro rfl (And.intro rfl True.intro)) Tryz.call170 (sim170 H)) ?_
    intro v24_3 h3 nx3 H
    refine OJ.mv rfl rfl rfl (r_assign rfl rfl) ?_
    refine OJ.fin ?_
    refine CJ.seq (CJ.cut (X := Value × Unit) (fun x h nx => H153_j4 k  x.1 h nx) (fun x => [(6, some x.1)]) ?_ ?_)
    · refine CJ.seq ?_
      refine CJ.region ?_
      refine OJ.mv rfl rfl rfl (r_move rfl rfl) ?_
      refine OJ.rd rfl rfl rfl (r_len (x := default) rfl rfl (And.intro rfl True.intro) rfl H) ?_
      intro v26_6 H
      refine OJ.mv rfl rfl rfl (r_move rfl rfl) ?_
      refine OJ.fin ?_
      refine CJ.block ?_
      refine CJ.weaken [(6, (some v24_3)), (25, (some a0_2)), (26, (some v26_6)), (27, (some (.int .i64 (.ofNat 0))))] (And.intro rfl (And.intro rfl (And.intro rfl (And.intro rfl True.intro)))) ?_
      refine CJ.loop_ind (X := Value × Value × Value × Value × Unit) (fun n x h nx => H153_l7 k  n x.1 x.2.1 x.2.2.1 x.2.2.2.1 h nx) (fun x => [(6, some x.1), (25, some x.2.1), (26, some x.2.2.1), (27, some x.2.2.2.1)]) (fun _ _ _ => rfl) ?_ 200000 (v24_3, a0_2, v26_6, (.int .i64 (.ofNat 0)), ()) _ _ H
      intro ih7n ih7p ⟨a6_8, a25_8, a26_8, a27_8, _u⟩ h nx H
      let ih7 := H153_l7 k  ih7n
      refine CJ.seq ?_
      refine CJ.region ?_
      refine OJ.rd rfl rfl rfl (r_bin rfl rfl rfl H) ?_
      intro v28_9 H
      refine OJ.fin ?_
      refine CJ.seq (CJ.cut (X := Value × Value × Value × Value × Unit) (fun x h nx => H153_j10 k ih7 x.1 x.2.1 x.2.2.1 x.2.2.2.1 h nx) (fun x => [(6, some x.1), (25, some x.2.1), (26, some x.2.2.1), (27, some x.2.2.2.1)]) ?_ ?_)
      · refine CJ.ite rfl H (fun H => ?_) (fun H => ?_)
        · exact CJ.skip [(6, (some a6_8)), (25, (some a25_8)), (26, (some a26_8)), (27, (some a27_8))] (And.intro rfl (And.intro rfl (And.intro rfl (And.intro rfl True.intro)))) (Exists.intro (a6_8, a25_8, a26_8, a27_8, ()) (And.intro rfl H))
        · exact CJ.exit [(6, (some a6_8))] (And.intro rfl True.intro) (Exists.intro (a6_8, ()) (And.intro rfl H))
      · intro ⟨a6_11, a25_11, a26_11, a27_11, _u⟩ h nx H
        refine CJ.seq (CJ.cut (X := Value × Value × Value × Value × Unit) (fun x h nx => H153_j12 k ih7 x.1 x.2.1 x.2.2.1 x.2.2.2.1 h nx) (fun x => [(6, some x.1), (25, some x.2.1), (26, some x.2.2.1), (27, some x.2.2.2.1)]) ?_ ?_)
        · refine CJ.block ?_
          refine CJ.seq ?_
          refine CJ.region ?_
          refine OJ.rd rfl rfl rfl (r_indexAddr rfl rfl rfl H) ?_
          intro v29_15 H
          refine OJ.rd rfl rfl rfl (r_load rfl rfl H) ?_
          intro v30_16 H
          refine OJ.mv rfl rfl rfl (r_assign rfl rfl) ?_
          refine OJ.fin ?_
          refine CJ.region ?_
          refine OJ.mv rfl rfl rfl (r_move rfl rfl) ?_
          refine OJ.mv rfl rfl rfl (r_move rfl rfl) ?_
          refine OJ.fu rfl rfl rfl (r_append1 rfl rfl (And.intro rfl (And.intro rfl True.intro)) rfl H) ?_
          intro v33_17 h17 nx17 H
          refine OJ.mv rfl rfl rfl (r_assign rfl rfl) ?_
          exact OJ.done [(6, (some v33_17)), (25, (some a25_11)), (26, (some a26_11)), (27, (some a27_11))] (And.intro rfl (And.intro rfl (And.intro rfl (And.intro rfl True.intro)))) (Exists.intro (v33_17, a25_11, a26_11, a27_11, ()) (And.intro rfl H))
        · intro ⟨a6_13, a25_13, a26_13, a27_13, _u⟩ h nx H
          refine CJ.region ?_
          refine OJ.rd rfl rfl rfl (r_bin rfl rfl rfl H) ?_
          intro v34_14 H
          refine OJ.mv rfl rfl rfl (r_move rfl rfl) ?_
          exact OJ.done [(6, (some a6_13)), (25, (some a25_13)), (26, (some a26_13)), (27, (some v34_14))] (And.intro rfl (And.intro rfl (And.intro rfl (And.intro rfl True.intro)))) (ih7p (a6_13, a25_13, a26_13, v34_14, ()) _ _ H)
    · intro ⟨a6_5, _u⟩ h nx H
      refine CJ.seq ?_
      refine CJ.region ?_
      refine OJ.mv rfl rfl rfl (r_move rfl rfl) ?_
      refine OJ.mv rfl rfl rfl (r_assign rfl rfl) ?_
      refine OJ.fin ?_
      refine CJ.ret1 ?_
      exact ret_one (Or.inr rfl) rfl rfl H

/-! 186 -/
noncomputable def H186_j4 (k : KV) (ih2 : Value → Value → Heap → Nat → Bool)  (h : Heap) (nx : Nat) : Bool :=
  false
noncomputable def H186_l2 (k : KV)  (n : Nat) : Value → Value → Heap → Nat → Bool :=
  Nat.rec (motive := fun _ => Value → Value → Heap → Nat → Bool) (fun _ _ _ _ => false) (fun _ ih2 a2_3 a6_3 h nx => binK Tryz.prog .lss 3 (.tmp 10) (.tmp 11) a6_3 a2_3 fun v12_6 =>
  hIf v12_6 (fun _ => false) (fun _ => hRet [] h nx k)) n
noncomputable def H186 (a0 : Value) (a1 : Value) (a2 : Value) (h : Heap) (nx : Nat) (k : KV) : Bool :=
  binK Tryz.prog .add 3 (.tmp 8) (.const (.int .i64 (.ofNat 1))) a1 (.int .i64 (.ofNat 1)) fun v9_1 =>
  H186_l2 k  200000 a2 v9_1 h nx
theorem sim186 {a0 a1 a2 : Value} {h : Heap} {nx : Nat} {k : KV} (H : H186 a0 a1 a2 h nx k = true) : ∃ v h' nx', k v h' nx' = true ∧ CallSim Tryz.prog 186 [a0, a1, a2] h nx v h' nx' := by
  refine fn_rule Tryz.func186 rfl rfl ?_
  refine CJ.seq ?_
  refine CJ.region ?_
  refine OJ.mv rfl rfl rfl (r_move rfl rfl) ?_
  refine OJ.rd rfl rfl rfl (r_bin rfl rfl rfl H) ?_
  intro v9_1 H
  refine OJ.mv rfl rfl rfl (r_assign rfl rfl) ?_
  refine OJ.fin ?_
  refine CJ.block ?_
  refine CJ.weaken [(2, (some a2)), (6, (some v9_1))] (And.intro rfl (And.intro rfl True.intro)) ?_
  refine CJ.loop_ind (X := Value × Value × Unit) (fun n x h nx => H186_l2 k  n x.1 x.2.1 h nx) (fun x => [(2, some x.1), (6, some x.2.1)]) (fun _ _ _ => rfl) ?_ 200000 (a2, v9_1, ()) _ _ H
  intro ih2n ih2p ⟨a2_3, a6_3, _u⟩ h nx H
  let ih2 := H186_l2 k  ih2n
  refine CJ.seq (CJ.cut (X := Unit) (fun x h nx => H186_j4 k ih2  h nx) (fun x => []) ?_ ?_)
  · refine CJ.seq ?_
    refine CJ.region ?_
    refine OJ.mv rfl rfl rfl (r_move rfl rfl) ?_
    refine OJ.mv rfl rfl rfl (r_move rfl rfl) ?_
    refine OJ.rd rfl rfl rfl (r_bin rfl rfl rfl H) ?_
    intro v12_6 H
    refine OJ.fin ?_
    refine CJ.ite rfl H (fun H => ?_) (fun H => ?_)
    · cases H
    · refine CJ.exit1 ?_
      exact ret_many (vs := []) [] (Or.inl rfl) rfl True.intro H
  · intro _u h nx H
    cases H

/-! 171 -/
noncomputable def H171_j4 (k : KV) (ih1 : Value → Value → Value → Heap → Nat → Bool)  (h : Heap) (nx : Nat) : Bool :=
  false
noncomputable def H171_l1 (k : KV)  (n : Nat) : Value → Value → Value → Heap → Nat → Bool :=
  Nat.rec (motive := fun _ => Value → Value → Value → Heap → Nat → Bool) (fun _ _ _ _ _ => false) (fun _ ih1 a0_2 a1_2 a2_2 h nx => binK Tryz.prog .sub 3 (.tmp 19) (.tmp 20) a2_2 a1_2 fun v21_3 =>
  binK Tryz.prog .leq 3 (.tmp 22) (.const (.int .i64 (.ofNat 12))) v21_3 (.int .i64 (.ofNat 12)) fun v23_6 =>
  hIf v23_6 (fun _ => H186 a0_2 a1_2 a2_2 h nx fun v27_7 h7 nx7 =>
  hRet [] h7 nx7 k) (fun _ => false)) n
noncomputable def H171 (a0 : Value) (a1 : Value) (a2 : Value) (a3 : Value) (h : Heap) (nx : Nat) (k : KV) : Bool :=
  H171_l1 k  200000 a0 a1 a2 h nx
theorem sim171 {a0 a1 a2 a3 : Value} {h : Heap} {nx : Nat} {k : KV} (H : H171 a0 a1 a2 a3 h nx k = true) : ∃ v h' nx', k v h' nx' = true ∧ CallSim Tryz.prog 171 [a0, a1, a2, a3] h nx v h' nx' := by
  refine fn_rule Tryz.func171 rfl rfl ?_
  refine CJ.seq ?_
  refine CJ.region ?_
  refine OJ.mv rfl rfl rfl (r_assign rfl rfl) ?_
  refine OJ.fin ?_
  refine CJ.seq ?_
  refine CJ.region ?_
  refine OJ.mv rfl rfl rfl (r_assign rfl rfl) ?_
  refine OJ.fin ?_
  refine CJ.block ?_
  refine CJ.weaken [(0, (some a0)), (1, (some a1)), (2, (some a2))] (And.intro rfl (And.intro rfl (And.intro rfl True.intro))) ?_
  refine CJ.loop_ind (X := Value × Value × Value × Unit) (fun n x h nx => H171_l1 k  n x.1 x.2.1 x.2.2.1 h nx) (fun x => [(0, some x.1), (1, some x.2.1), (2, some x.2.2.1)]) (fun _ _ _ => rfl) ?_ 200000 (a0, a1, a2, ()) _ _ H
  intro ih1n ih1p ⟨a0_2, a1_2, a2_2, _u⟩ h nx H
  let ih1 := H171_l1 k  ih1n
  refine CJ.block ?_
  refine CJ.seq ?_
  refine CJ.region ?_
  refine OJ.mv rfl rfl rfl (r_move rfl rfl) ?_
  refine OJ.mv rfl rfl rfl (r_move rfl rfl) ?_
  refine OJ.rd rfl rfl rfl (r_bin rfl rfl rfl H) ?_
  intro v21_3 H
  refine OJ.mv rfl rfl rfl (r_assign rfl rfl) ?_
  refine OJ.fin ?_
  refine CJ.seq (CJ.cut (X := Unit) (fun x h nx => H171_j4 k ih1  h nx) (fun x => []) ?_ ?_)
  · refine CJ.seq ?_
    refine CJ.region ?_
    refine OJ.mv rfl rfl rfl (r_move rfl rfl) ?_
    refine OJ.rd rfl rfl rfl (r_bin rfl rfl rfl H) ?_
    intro v23_6 H
    refine OJ.fin ?_
    refine CJ.ite rfl H (fun H => ?_) (fun H => ?_)
    · refine CJ.seq ?_
      refine CJ.region ?_
      refine OJ.mv rfl rfl rfl (r_move rfl rfl) ?_
      refine OJ.mv rfl rfl rfl (r_move rfl rfl) ?_
      refine OJ.mv rfl rfl rfl (r_move rfl rfl) ?_
      refine OJ.fu rfl rfl rfl (r_call (args := [a0_2, a1_2, a2_2]) rfl rfl rfl (And.intro rfl (And.intro rfl (And.intro rfl True.intro))) Tryz.call186 (sim186 H)) ?_
      intro v27_7 h7 nx7 H
      refine OJ.fin ?_
      refine CJ.ret1 ?_
      exact ret_many (vs := []) [] (Or.inr rfl) rfl True.intro H
    · cases H
  · intro _u h nx H
    cases H

/-! 196 -/
noncomputable def H196_j5 (k : KV)  (a0_6 : Value) (a2_6 : Value) (h : Heap) (nx : Nat) : Bool :=
  hConv Tryz.prog 290 5 a0_6 h fun v21_7 =>
  hIndex Tryz.prog 9 (.string ⟨⟨[0,1,2,2,3,3,3,3,4,4,4,4,4,4,4,4,5,5,5,5,5,5,5,5,5,5,5,5,5,5,5,5,6,6,6,6,6,6,6,6,6,6,6,6,6,6,6,6,6,6,6,6,6,6,6,6,6,6,6,6,6,6,6,6,7,7,7,7,7,7,7,7,7,7,7,7,7,7,7,7,7,7,7,7,7,7,7,7,7,7,7,7,7,7,7,7,7,7,7,7,7,7,7,7,7,7,7,7,7,7,7,7,7,7,7,7,7,7,7,7,7,7,7,7,7,7,7,7,8,8,8,8,8,8,8,8,8,8,8,8,8,8,8,8,8,8,8,8,8,8,8,8,8,8,8,8,8,8,8,8,8,8,8,8,8,8,8,8,8,8,8,8,8,8,8,8,8,8,8,8,8,8,8,8,8,8,8,8,8,8,8,8,8,8,8,8,8,8,8,8,8,8,8,8,8,8,8,8,8,8,8,8,8,8,8,8,8,8,8,8,8,8,8,8,8,8,8,8,8,8,8,8,8,8,8,8,8,8,8,8,8,8,8,8,8,8,8,8,8,8,8,8,8,8,8,8]⟩⟩) v21_7 fun v22_8 =>
  hConv Tryz.prog 5 3 v22_8 h fun v23_9 =>
  binK Tryz.prog .add 3 (.tmp 19) (.tmp 23) a2_6 v23_9 fun v24_10 =>
  k v24_10 h nx
noncomputable def H196_j3 (k : KV)  (a0_4 : Value) (a2_4 : Value) (h : Heap) (nx : Nat) : Bool :=
  binK Tryz.prog .geq 290 (.tmp 13) (.const (.int .u64 (.ofNat 256))) a0_4 (.int .u64 (.ofNat 256)) fun v14_11 =>
  hIf v14_11 (fun _ => false) (fun _ => H196_j5 k  a0_4 a2_4 h nx)
noncomputable def H196_j1 (k : KV)  (a0_2 : Value) (a2_2 : Value) (h : Heap) (nx : Nat) : Bool :=
  binK Tryz.prog .geq 290 (.tmp 7) (.const (.int .u64 (.ofNat 65536))) a0_2 (.int .u64 (.ofNat 65536)) fun v8_12 =>
  hIf v8_12 (fun _ => false) (fun _ => H196_j3 k  a0_2 a2_2 h nx)
noncomputable def H196 (a0 : Value) (h : Heap) (nx : Nat) (k : KV) : Bool :=
  binK Tryz.prog .geq 290 (.tmp 3) (.const (.int .u64 (.ofNat 4294967296))) a0 (.int .u64 (.ofNat 4294967296)) fun v4_13 =>
  hIf v4_13 (fun _ => false) (fun _ => H196_j1 k  a0 (.int .i64 (.ofNat 0)) h nx)
theorem sim196 {a0 : Value} {h : Heap} {nx : Nat} {k : KV} (H : H196 a0 h nx k = true) : ∃ v h' nx', k v h' nx' = true ∧ CallSim Tryz.prog 196 [a0] h nx v h' nx' := by
  refine fn_rule Tryz.func196 rfl rfl ?_
  refine CJ.seq ?_
  refine CJ.region ?_
  refine OJ.mv rfl rfl rfl (r_assign rfl rfl) ?_
  refine OJ.fin ?_
  refine CJ.seq (CJ.cut (X := Value × Value × Unit) (fun x h nx => H196_j1 k  x.1 x.2.1 h nx) (fun x => [(0, some x.1), (2, some x.2.1)]) ?_ ?_)
  · refine CJ.seq ?_
    refine CJ.region ?_
    refine OJ.mv rfl rfl rfl (r_move rfl rfl) ?_
    refine OJ.rd rfl rfl rfl (r_bin rfl rfl rfl H) ?_
    intro v4_13 H
    refine OJ.fin ?_
    refine CJ.ite rfl H (fun H => ?_) (fun H => ?_)
    · cases H
    · exact CJ.skip [(0, (some a0)), (2, (some (.int .i64 (.ofNat 0))))] (And.intro rfl (And.intro rfl True.intro)) (Exists.intro (a0, (.int .i64 (.ofNat 0)), ()) (And.intro rfl H))
  · intro ⟨a0_2, a2_2, _u⟩ h nx H
    refine CJ.seq (CJ.cut (X := Value × Value × Unit) (fun x h nx => H196_j3 k  x.1 x.2.1 h nx) (fun x => [(0, some x.1), (2, some x.2.1)]) ?_ ?_)
    · refine CJ.seq ?_
      refine CJ.region ?_
      refine OJ.mv rfl rfl rfl (r_move rfl rfl) ?_
      refine OJ.rd rfl rfl rfl (r_bin rfl rfl rfl H) ?_
      intro v8_12 H
      refine OJ.fin ?_
      refine CJ.ite rfl H (fun H => ?_) (fun H => ?_)
      · cases H
      · exact CJ.skip [(0, (some a0_2)), (2, (some a2_2))] (And.intro rfl (And.intro rfl True.intro)) (Exists.intro (a0_2, a2_2, ()) (And.intro rfl H))
    · intro ⟨a0_4, a2_4, _u⟩ h nx H
      refine CJ.seq (CJ.cut (X := Value × Value × Unit) (fun x h nx => H196_j5 k  x.1 x.2.1 h nx) (fun x => [(0, some x.1), (2, some x.2.1)]) ?_ ?_)
      · refine CJ.seq ?_
        refine CJ.region ?_
        refine OJ.mv rfl rfl rfl (r_move rfl rfl) ?_
        refine OJ.rd rfl rfl rfl (r_bin rfl rfl rfl H) ?_
        intro v14_11 H
        refine OJ.fin ?_
        refine CJ.ite rfl H (fun H => ?_) (fun H => ?_)
        · cases H
        · exact CJ.skip [(0, (some a0_4)), (2, (some a2_4))] (And.intro rfl (And.intro rfl True.intro)) (Exists.intro (a0_4, a2_4, ()) (And.intro rfl H))
      · intro ⟨a0_6, a2_6, _u⟩ h nx H
        refine CJ.seq ?_
        refine CJ.region ?_
        refine OJ.mv rfl rfl rfl (r_move rfl rfl) ?_
        refine OJ.mv rfl rfl rfl (r_move rfl rfl) ?_
        refine OJ.rd rfl rfl rfl (r_conv rfl rfl H) ?_
        intro v21_7 H
        refine OJ.rd rfl rfl rfl (r_index rfl rfl rfl H) ?_
        intro v22_8 H
        refine OJ.rd rfl rfl rfl (r_conv rfl rfl H) ?_
        intro v23_9 H
        refine OJ.rd rfl rfl rfl (r_bin rfl rfl rfl H) ?_
        intro v24_10 H
        refine OJ.mv rfl rfl rfl (r_assign rfl rfl) ?_
        refine OJ.fin ?_
        refine CJ.ret1 ?_
        exact ret_one (Or.inr rfl) rfl rfl H

/-! 172 -/
noncomputable def H172_j1 (k : KV)  (a0_2 : Value) (h : Heap) (nx : Nat) : Bool :=
  H196 a0_2 h nx fun v7_3 h3 nx3 =>
  k v7_3 h3 nx3
noncomputable def H172 (a0 : Value) (h : Heap) (nx : Nat) (k : KV) : Bool :=
  hIf (.bool false) (fun _ => false) (fun _ => H172_j1 k  a0 h nx)
theorem sim172 {a0 : Value} {h : Heap} {nx : Nat} {k : KV} (H : H172 a0 h nx k = true) : ∃ v h' nx', k v h' nx' = true ∧ CallSim Tryz.prog 172 [a0] h nx v h' nx' := by
  refine fn_rule Tryz.func172 rfl rfl ?_
  refine CJ.seq ?_
  refine CJ.region ?_
  refine OJ.mv rfl rfl rfl (r_assign rfl rfl) ?_
  refine OJ.fin ?_
  refine CJ.seq (CJ.cut (X := Value × Unit) (fun x h nx => H172_j1 k  x.1 h nx) (fun x => [(0, some x.1)]) ?_ ?_)
  · refine CJ.ite rfl H (fun H => ?_) (fun H => ?_)
    · cases H
    · exact CJ.skip [(0, (some a0))] (And.intro rfl True.intro) (Exists.intro (a0, ()) (And.intro rfl H))
  · intro ⟨a0_2, _u⟩ h nx H
    refine CJ.seq ?_
    refine CJ.region ?_
    refine OJ.mv rfl rfl rfl (r_move rfl rfl) ?_
    refine OJ.fu rfl rfl rfl (r_call (args := [a0_2]) rfl rfl rfl (And.intro rfl True.intro) Tryz.call196 (sim196 H)) ?_
    intro v7_3 h3 nx3 H
    refine OJ.mv rfl rfl rfl (r_assign rfl rfl) ?_
    refine OJ.fin ?_
    refine CJ.ret1 ?_
    exact ret_one (Or.inr rfl) rfl rfl H

/-! 154 -/
noncomputable def H154 (a0 : Value) (h : Heap) (nx : Nat) (k : KV) : Bool :=
  lenK Tryz.prog 31 a0 h fun v4_1 =>
  hConv Tryz.prog 3 151 v4_1 h fun v8_2 =>
  H172 v8_2 h nx fun v9_3 h3 nx3 =>
  H171 a0 (.int .i64 (.ofNat 0)) v4_1 v9_3 h3 nx3 fun v10_4 h4 nx4 =>
  hRet [] h4 nx4 k
theorem sim154 {a0 : Value} {h : Heap} {nx : Nat} {k : KV} (H : H154 a0 h nx k = true) : ∃ v h' nx', k v h' nx' = true ∧ CallSim Tryz.prog 154 [a0] h nx v h' nx' := by
  refine fn_rule Tryz.func154 rfl rfl ?_
  refine CJ.seq ?_
  refine CJ.region ?_
  refine OJ.mv rfl rfl rfl (r_move rfl rfl) ?_
  refine OJ.rd rfl rfl rfl (r_len (x := default) rfl rfl (And.intro rfl True.intro) rfl H) ?_
  intro v4_1 H
  refine OJ.mv rfl rfl rfl (r_assign rfl rfl) ?_
  refine OJ.fin ?_
  refine CJ.region ?_
  refine OJ.mv rfl rfl rfl (r_move rfl rfl) ?_
  refine OJ.mv rfl rfl rfl (r_move rfl rfl) ?_
  refine OJ.mv rfl rfl rfl (r_move rfl rfl) ?_
  refine OJ.rd rfl rfl rfl (r_conv rfl rfl H) ?_
  intro v8_2 H
  refine OJ.fu rfl rfl rfl (r_call (args := [v8_2]) rfl rfl rfl (And.intro rfl True.intro) Tryz.call172 (sim172 H)) ?_
  intro v9_3 h3 nx3 H
  refine OJ.fu rfl rfl rfl (r_call (args := [a0, (.int .i64 (.ofNat 0)), v4_1, v9_3]) rfl rfl rfl (And.intro rfl (And.intro rfl (And.intro rfl (And.intro rfl True.intro)))) Tryz.call171 (sim171 H)) ?_
  intro v10_4 h4 nx4 H
  refine OJ.fin ?_
  exact ret_many (vs := []) [] (Or.inl rfl) rfl True.intro H

/-! 197 -/
noncomputable def H197_j4 (k : KV) (ih2 : Value → Value → Heap → Nat → Bool)  (h : Heap) (nx : Nat) : Bool :=
  false
noncomputable def H197_l2 (k : KV)  (n : Nat) : Value → Value → Heap → Nat → Bool :=
  Nat.rec (motive := fun _ => Value → Value → Heap → Nat → Bool) (fun _ _ _ _ => false) (fun _ ih2 a2_3 a8_3 h nx => binK Tryz.prog .lss 3 (.tmp 12) (.tmp 13) a8_3 a2_3 fun v14_6 =>
  hIf v14_6 (fun _ => false) (fun _ => hRet [] h nx k)) n
noncomputable def H197 (a0 : Value) (a1 : Value) (a2 : Value) (a3 : Value) (h : Heap) (nx : Nat) (k : KV) : Bool :=
  binK Tryz.prog .add 3 (.tmp 10) (.const (.int .i64 (.ofNat 1))) a1 (.int .i64 (.ofNat 1)) fun v11_1 =>
  H197_l2 k  200000 a2 v11_1 h nx
theorem sim197 {a0 a1 a2 a3 : Value} {h : Heap} {nx : Nat} {k : KV} (H : H197 a0 a1 a2 a3 h nx k = true) : ∃ v h' nx', k v h' nx' = true ∧ CallSim Tryz.prog 197 [a0, a1, a2, a3] h nx v h' nx' := by
  refine fn_rule Tryz.func197 rfl rfl ?_
  refine CJ.seq ?_
  refine CJ.region ?_
  refine OJ.mv rfl rfl rfl (r_move rfl rfl) ?_
  refine OJ.rd rfl rfl rfl (r_bin rfl rfl rfl H) ?_
  intro v11_1 H
  refine OJ.mv rfl rfl rfl (r_assign rfl rfl) ?_
  refine OJ.fin ?_
  refine CJ.block ?_
  refine CJ.weaken [(2, (some a2)), (8, (some v11_1))] (And.intro rfl (And.intro rfl True.intro)) ?_
  refine CJ.loop_ind (X := Value × Value × Unit) (fun n x h nx => H197_l2 k  n x.1 x.2.1 h nx) (fun x => [(2, some x.1), (8, some x.2.1)]) (fun _ _ _ => rfl) ?_ 200000 (a2, v11_1, ()) _ _ H
  intro ih2n ih2p ⟨a2_3, a8_3, _u⟩ h nx H
  let ih2 := H197_l2 k  ih2n
  refine CJ.seq (CJ.cut (X := Unit) (fun x h nx => H197_j4 k ih2  h nx) (fun x => []) ?_ ?_)
  · refine CJ.seq ?_
    refine CJ.region ?_
    refine OJ.mv rfl rfl rfl (r_move rfl rfl) ?_
    refine OJ.mv rfl rfl rfl (r_move rfl rfl) ?_
    refine OJ.rd rfl rfl rfl (r_bin rfl rfl rfl H) ?_
    intro v14_6 H
    refine OJ.fin ?_
    refine CJ.ite rfl H (fun H => ?_) (fun H => ?_)
    · cases H
    · refine CJ.exit1 ?_
      exact ret_many (vs := []) [] (Or.inl rfl) rfl True.intro H
  · intro _u h nx H
    cases H

/-! 173 -/
noncomputable def H173_j4 (k : KV) (ih1 : Value → Value → Value → Value → Heap → Nat → Bool)  (h : Heap) (nx : Nat) : Bool :=
  false
noncomputable def H173_l1 (k : KV)  (n : Nat) : Value → Value → Value → Value → Heap → Nat → Bool :=
  Nat.rec (motive := fun _ => Value → Value → Value → Value → Heap → Nat → Bool) (fun _ _ _ _ _ _ => false) (fun _ ih1 a0_2 a1_2 a2_2 a4_2 h nx => binK Tryz.prog .sub 3 (.tmp 21) (.tmp 22) a2_2 a1_2 fun v23_3 =>
  binK Tryz.prog .leq 3 (.tmp 24) (.const (.int .i64 (.ofNat 12))) v23_3 (.int .i64 (.ofNat 12)) fun v25_6 =>
  hIf v25_6 (fun _ => H197 a0_2 a1_2 a2_2 a4_2 h nx fun v30_7 h7 nx7 =>
  hRet [] h7 nx7 k) (fun _ => false)) n
noncomputable def H173 (a0 : Value) (a1 : Value) (a2 : Value) (a3 : Value) (a4 : Value) (h : Heap) (nx : Nat) (k : KV) : Bool :=
  H173_l1 k  200000 a0 a1 a2 a4 h nx
theorem sim173 {a0 a1 a2 a3 a4 : Value} {h : Heap} {nx : Nat} {k : KV} (H : H173 a0 a1 a2 a3 a4 h nx k = true) : ∃ v h' nx', k v h' nx' = true ∧ CallSim Tryz.prog 173 [a0, a1, a2, a3, a4] h nx v h' nx' := by
  refine fn_rule Tryz.func173 rfl rfl ?_
  refine CJ.seq ?_
  refine CJ.region ?_
  refine OJ.mv rfl rfl rfl (r_assign rfl rfl) ?_
  refine OJ.fin ?_
  refine CJ.seq ?_
  refine CJ.region ?_
  refine OJ.mv rfl rfl rfl (r_assign rfl rfl) ?_
  refine OJ.fin ?_
  refine CJ.block ?_
  refine CJ.weaken [(0, (some a0)), (1, (some a1)), (2, (some a2)), (4, (some a4))] (And.intro rfl (And.intro rfl (And.intro rfl (And.intro rfl True.intro)))) ?_
  refine CJ.loop_ind (X := Value × Value × Value × Value × Unit) (fun n x h nx => H173_l1 k  n x.1 x.2.1 x.2.2.1 x.2.2.2.1 h nx) (fun x => [(0, some x.1), (1, some x.2.1), (2, some x.2.2.1), (4, some x.2.2.2.1)]) (fun _ _ _ => rfl) ?_ 200000 (a0, a1, a2, a4, ()) _ _ H
  intro ih1n ih1p ⟨a0_2, a1_2, a2_2, a4_2, _u⟩ h nx H
  let ih1 := H173_l1 k  ih1n
  refine CJ.block ?_
  refine CJ.seq ?_
  refine CJ.region ?_
  refine OJ.mv rfl rfl rfl (r_move rfl rfl) ?_
  refine OJ.mv rfl rfl rfl (r_move rfl rfl) ?_
  refine OJ.rd rfl rfl rfl (r_bin rfl rfl rfl H) ?_
  intro v23_3 H
  refine OJ.mv rfl rfl rfl (r_assign rfl rfl) ?_
  refine OJ.fin ?_
  refine CJ.seq (CJ.cut (X := Unit) (fun x h nx => H173_j4 k ih1  h nx) (fun x => []) ?_ ?_)
  · refine CJ.seq ?_
    refine CJ.region ?_
    refine OJ.mv rfl rfl rfl (r_move rfl rfl) ?_
    refine OJ.rd rfl rfl rfl (r_bin rfl rfl rfl H) ?_
    intro v25_6 H
    refine OJ.fin ?_
    refine CJ.ite rfl H (fun H => ?_) (fun H => ?_)
    · refine CJ.seq ?_
      refine CJ.region ?_
      refine OJ.mv rfl rfl rfl (r_move rfl rfl) ?_
      refine OJ.mv rfl rfl rfl (r_move rfl rfl) ?_
      refine OJ.mv rfl rfl rfl (r_move rfl rfl) ?_
      refine OJ.mv rfl rfl rfl (r_move rfl rfl) ?_
      refine OJ.fu rfl rfl rfl (r_call (args := [a0_2, a1_2, a2_2, a4_2]) rfl rfl rfl (And.intro rfl (And.intro rfl (And.intro rfl (And.intro rfl True.intro)))) Tryz.call197 (sim197 H)) ?_
      intro v30_7 h7 nx7 H
      refine OJ.fin ?_
      refine CJ.ret1 ?_
      exact ret_many (vs := []) [] (Or.inr rfl) rfl True.intro H
    · cases H
  · intro _u h nx H
    cases H

/-! 155 -/
noncomputable def H155 (a0 : Value) (a1 : Value) (h : Heap) (nx : Nat) (k : KV) : Bool :=
  lenK Tryz.prog 32 a0 h fun v6_1 =>
  hConv Tryz.prog 3 151 v6_1 h fun v10_2 =>
  H172 v10_2 h nx fun v11_3 h3 nx3 =>
  H173 a0 (.int .i64 (.ofNat 0)) v6_1 v11_3 a1 h3 nx3 fun v13_4 h4 nx4 =>
  hRet [] h4 nx4 k
theorem sim155 {a0 a1 : Value} {h : Heap} {nx : Nat} {k : KV} (H : H155 a0 a1 h nx k = true) : ∃ v h' nx', k v h' nx' = true ∧ CallSim Tryz.prog 155 [a0, a1] h nx v h' nx' := by
  refine fn_rule Tryz.func155 rfl rfl ?_
  refine CJ.seq ?_
  refine CJ.region ?_
  refine OJ.mv rfl rfl rfl (r_move rfl rfl) ?_
  refine OJ.rd rfl rfl rfl (r_len (x := default) rfl rfl (And.intro rfl True.intro) rfl H) ?_
  intro v6_1 H
  refine OJ.mv rfl rfl rfl (r_assign rfl rfl) ?_
  refine OJ.fin ?_
  refine CJ.region ?_
  refine OJ.mv rfl rfl rfl (r_move rfl rfl) ?_
  refine OJ.mv rfl rfl rfl (r_move rfl rfl) ?_
  refine OJ.mv rfl rfl rfl (r_move rfl rfl) ?_
  refine OJ.rd rfl rfl rfl (r_conv rfl rfl H) ?_
  intro v10_2 H
  refine OJ.fu rfl rfl rfl (r_call (args := [v10_2]) rfl rfl rfl (And.intro rfl True.intro) Tryz.call172 (sim172 H)) ?_
  intro v11_3 h3 nx3 H
  refine OJ.mv rfl rfl rfl (r_move rfl rfl) ?_
  refine OJ.fu rfl rfl rfl (r_call (args := [a0, (.int .i64 (.ofNat 0)), v6_1, v11_3, a1]) rfl rfl rfl (And.intro rfl (And.intro rfl (And.intro rfl (And.intro rfl (And.intro rfl True.intro))))) Tryz.call173 (sim173 H)) ?_
  intro v13_4 h4 nx4 H
  refine OJ.fin ?_
  exact ret_many (vs := []) [] (Or.inl rfl) rfl True.intro H

/-! 127 -/
noncomputable def H127_j14 (k : KV)  (a4_15 : Value) (a6_15 : Value) (h : Heap) (nx : Nat) : Bool :=
  loadK Tryz.prog 34 a6_15 h fun v39_16 =>
  storeK Tryz.prog 34 a4_15 v39_16 h fun h17 =>
  loadK Tryz.prog 34 a4_15 h17 fun r18 => hNT (.int .i64 (.ofNat 0)) fun _ => k (resV [r18, (.int .i64 (.ofNat 0))]) h17 nx
noncomputable def H127_j6 (k : KV)  (a4_7 : Value) (a6_7 : Value) (h : Heap) (nx : Nat) : Bool :=
  hFieldAddr Tryz.prog 34 a6_7 0 fun v29_8 =>
  loadK Tryz.prog 31 v29_8 h fun v30_9 =>
  H154 v30_9 h nx fun v31_10 h10 nx10 =>
  hFieldAddr Tryz.prog 34 a6_7 1 fun v32_11 =>
  loadK Tryz.prog 32 v32_11 h10 fun v33_12 =>
  H155 v33_12 (.func (.func 156) ⟨[]⟩ ⟨[]⟩) h10 nx10 fun v34_13 h13 nx13 =>
  loadK Tryz.prog 34 a6_7 h13 fun v35_20 =>
  H145 v35_20 h13 nx13 fun v36_21 h21 nx21 =>
  binK Tryz.prog .neq 44 (.tmp 36) (.const (.int .i64 (.ofNat 0))) v36_21 (.int .i64 (.ofNat 0)) fun v37_22 =>
  hIf v37_22 (fun _ => false) (fun _ => H127_j14 k  a4_7 a6_7 h21 nx21)
noncomputable def H127_j4 (k : KV)  (a2_5 : Value) (a3_5 : Value) (a4_5 : Value) (h : Heap) (nx : Nat) : Bool :=
  hFieldAddr Tryz.prog 34 a2_5 0 fun v16_24 =>
  loadK Tryz.prog 31 v16_24 h fun v17_25 =>
  hFieldAddr Tryz.prog 34 a3_5 0 fun v18_26 =>
  loadK Tryz.prog 31 v18_26 h fun v19_27 =>
  hFieldAddr Tryz.prog 34 a2_5 1 fun v22_28 =>
  loadK Tryz.prog 32 v22_28 h fun v23_29 =>
  hFieldAddr Tryz.prog 34 a3_5 1 fun v24_30 =>
  loadK Tryz.prog 32 v24_30 h fun v25_31 =>
  hBuildSlice Tryz.prog 260 2 [(0, v23_29), (1, v25_31)] h nx fun v26_32 h32 nx32 =>
  hAlloc Tryz.prog 34 h32 nx32 fun v6_33 h33 nx33 =>
  loadK Tryz.prog 31 v16_24 h33 fun v17_35 =>
  hEq v17_35 v17_25 fun _ => loadK Tryz.prog 31 v18_26 h33 fun v19_37 =>
  hEq v19_37 v19_27 fun _ => loadK Tryz.prog 32 v22_28 h33 fun v23_39 =>
  hEq v23_39 v23_29 fun _ => loadK Tryz.prog 32 v24_30 h33 fun v25_41 =>
  hEq v25_41 v25_31 fun _ => hSame h32 h33 nx fun _ => hBuildSlice Tryz.prog 258 2 [(0, v17_25), (1, v19_27)] h33 nx33 fun v20_43 h43 nx43 =>
  loadK Tryz.prog 32 v22_28 h43 fun v23_45 =>
  hEq v23_45 v23_29 fun _ => loadK Tryz.prog 32 v24_30 h43 fun v25_47 =>
  hEq v25_47 v25_31 fun _ => hSame h32 h43 nx fun _ => hSame h33 h43 nx32 fun _ => H152 v20_43 h43 nx43 fun v21_50 h50 nx50 =>
  loadK Tryz.prog 32 v22_28 h50 fun v23_52 =>
  hEq v23_52 v23_29 fun _ => loadK Tryz.prog 32 v24_30 h50 fun v25_54 =>
  hEq v25_54 v25_31 fun _ => hSame h32 h50 nx fun _ => hSame h33 h50 nx32 fun _ => H153 v26_32 h50 nx50 fun v27_57 h57 nx57 =>
  hBuild Tryz.prog 34 [(0, v21_50), (1, v27_57)] fun v28_58 =>
  hSame h33 h57 nx32 fun _ => storeK Tryz.prog 34 v6_33 v28_58 h57 fun h60 =>
  H127_j6 k  a4_5 v6_33 h60 nx57
noncomputable def H127_g64 (k : KV)  (v2_1 : Value) (v3_2 : Value) (v4_3 : Value) (v9_63 : Value) (o11_65 : Option Value) (o12_65 : Option Value) (o13_65 : Option Value) (h : Heap) (nx : Nat) : Bool :=
  hPick v9_63 (some (.bool true)) o13_65 fun v14_66 =>
  hIf v14_66 (fun _ => false) (fun _ => H127_j4 k  v2_1 v3_2 v4_3 h nx)
noncomputable def H127 (a0 : Value) (a1 : Value) (h : Heap) (nx : Nat) (k : KV) : Bool :=
  hBox a0 h nx fun v2_1 h1 nx1 =>
  hBox a1 h1 nx1 fun v3_2 h2 nx2 =>
  hAlloc Tryz.prog 34 h2 nx2 fun v4_3 h3 nx3 =>
  loadK Tryz.prog 34 v2_1 h3 fun v7_61 =>
  H145 v7_61 h3 nx3 fun v8_62 h62 nx62 =>
  binK Tryz.prog .neq 44 (.tmp 8) (.const (.int .i64 (.ofNat 0))) v8_62 (.int .i64 (.ofNat 0)) fun v9_63 =>
  hG (some v9_63) false (fun _ => loadK Tryz.prog 34 v3_2 h62 fun v11_67 =>
  H145 v11_67 h62 nx62 fun v12_68 h68 nx68 =>
  binK Tryz.prog .neq 44 (.tmp 12) (.const (.int .i64 (.ofNat 0))) v12_68 (.int .i64 (.ofNat 0)) fun v13_69 =>
  H127_g64 k  v2_1 v3_2 v4_3 v9_63 (some v11_67) (some v12_68) (some v13_69) h68 nx68) (fun _ => H127_g64 k  v2_1 v3_2 v4_3 v9_63 none none none h62 nx62)
theorem sim127 {a0 a1 : Value} {h : Heap} {nx : Nat} {k : KV} (H : H127 a0 a1 h nx k = true) : ∃ v h' nx', k v h' nx' = true ∧ CallSim Tryz.prog 127 [a0, a1] h nx v h' nx' := by
  refine fn_rule Tryz.func127 rfl rfl ?_
  refine CJ.seq ?_
  refine CJ.region ?_
  refine OJ.fu rfl rfl rfl (r_box rfl rfl H) ?_
  intro v2_1 h1 nx1 H
  refine OJ.fu rfl rfl rfl (r_box rfl rfl H) ?_
  intro v3_2 h2 nx2 H
  refine OJ.fu rfl rfl rfl (r_alloc1 rfl H) ?_
  intro v4_3 h3 nx3 H
  refine OJ.mv rfl rfl rfl (r_assign rfl rfl) ?_
  refine OJ.fin ?_
  refine CJ.seq (CJ.cut (X := Value × Value × Value × Unit) (fun x h nx => H127_j4 k  x.1 x.2.1 x.2.2.1 h nx) (fun x => [(2, some x.1), (3, some x.2.1), (4, some x.2.2.1)]) ?_ ?_)
  · refine CJ.seq ?_
    refine CJ.region ?_
    refine OJ.rd rfl rfl rfl (r_load rfl rfl H) ?_
    intro v7_61 H
    refine OJ.fu rfl rfl rfl (r_call (args := [v7_61]) rfl rfl rfl (And.intro rfl True.intro) Tryz.call145 (sim145 H)) ?_
    intro v8_62 h62 nx62 H
    refine OJ.rd rfl rfl rfl (r_bin rfl rfl rfl H) ?_
    intro v9_63 H
    refine OJ.mv rfl rfl rfl (r_move rfl rfl) ?_
    refine OJ.cut (X := Option Value × Option Value × Option Value × Unit) 3 (fun x h nx => H127_g64 k  v2_1 v3_2 v4_3 v9_63 x.1 x.2.1 x.2.2.1 h nx) (fun x => [(11, x.1), (12, x.2.1), (13, x.2.2.1), (2, (some v2_1)), (3, (some v3_2)), (4, (some v4_3)), (10, (some v9_63))]) ?_ (fun next => ?_)
    · intro ⟨o11_65, o12_65, o13_65, _u⟩ h nx H
      refine OJ.rd rfl rfl rfl (r_pick rfl rfl rfl rfl H) ?_
      intro v14_66 H
      refine OJ.fin ?_
      refine CJ.ite rfl H (fun H => ?_) (fun H => ?_)
      · cases H
      · exact CJ.skip [(2, (some v2_1)), (3, (some v3_2)), (4, (some v4_3))] (And.intro rfl (And.intro rfl (And.intro rfl True.intro))) (Exists.intro (v2_1, v3_2, v4_3, ()) (And.intro rfl H))
    · rcases hG_true H with ⟨g, H⟩ | ⟨g, H⟩
      · refine OJ.grd rfl rfl rfl g rfl rfl (r_load rfl rfl H) ?_
        intro v11_67 H
        refine OJ.gfu rfl rfl rfl g rfl rfl (r_call (args := [v11_67]) rfl rfl rfl (And.intro rfl True.intro) Tryz.call145 (sim145 H)) ?_
        intro v12_68 h68 nx68 H
        refine OJ.grd rfl rfl rfl g rfl rfl (r_bin rfl rfl rfl H) ?_
        intro v13_69 H
        exact OJ.weaken [(11, (some v11_67)), (12, (some v12_68)), (13, (some v13_69)), (2, (some v2_1)), (3, (some v3_2)), (4, (some v4_3)), (10, (some v9_63))] (And.intro rfl (And.intro rfl (And.intro rfl (And.intro rfl (And.intro rfl (And.intro rfl (And.intro rfl True.intro))))))) (next ((some v11_67), (some v12_68), (some v13_69), ()) _ _ H)
      · refine OJ.no rfl rfl rfl g rfl rfl ?_
        refine OJ.no rfl rfl rfl g rfl rfl ?_
        refine OJ.no rfl rfl rfl g rfl rfl ?_
        exact OJ.weaken [(11, none), (12, none), (13, none), (2, (some v2_1)), (3, (some v3_2)), (4, (some v4_3)), (10, (some v9_63))] (And.intro rfl (And.intro rfl (And.intro rfl (And.intro rfl (And.intro rfl (And.intro rfl (And.intro rfl True.intro))))))) (next (none, none, none, ()) _ _ H)
  · intro ⟨a2_5, a3_5, a4_5, _u⟩ h nx H
    refine CJ.seq (CJ.cut (X := Value × Value × Unit) (fun x h nx => H127_j6 k  x.1 x.2.1 h nx) (fun x => [(4, some x.1), (6, some x.2.1)]) ?_ ?_)
    · refine DJ.hm [0, 1, 0, 4, 15, 31, 0, 64, 0, 256, 960, 2047, 4095, 0, 16383] (by decide +kernel) ?_
      intro hm23
      refine DJ.any 0 [(2, (some a2_5))] (a_fieldAddr rfl rfl H) ?_
      intro v16_24 H S23_0
      refine DJ.rd 1 [(16, (some v16_24))] h nx (r_load rfl rfl H) ?_
      intro v17_25 H S23_1
      refine DJ.any 2 [(3, (some a3_5))] (a_fieldAddr rfl rfl H) ?_
      intro v18_26 H S23_2
      refine DJ.rd 3 [(18, (some v18_26))] h nx (r_load rfl rfl H) ?_
      intro v19_27 H S23_3
      refine DJ.any 6 [(2, (some a2_5))] (a_fieldAddr rfl rfl H) ?_
      intro v22_28 H S23_6
      refine DJ.rd 7 [(22, (some v22_28))] h nx (r_load rfl rfl H) ?_
      intro v23_29 H S23_7
      refine DJ.any 8 [(3, (some a3_5))] (a_fieldAddr rfl rfl H) ?_
      intro v24_30 H S23_8
      refine DJ.rd 9 [(24, (some v24_30))] h nx (r_load rfl rfl H) ?_
      intro v25_31 H S23_9
      refine DJ.fr 10 [(23, (some v23_29)), (25, (some v25_31))] h nx (f_buildSlice (vs := [(0, v23_29), (1, v25_31)]) rfl (And.intro rfl (And.intro rfl (And.intro rfl (And.intro rfl True.intro)))) H) ?_
      intro v26_32 h32 nx32 H E23_10 W23_10 S23_10
      refine DJ.fr 13 [] h32 nx32 (f_alloc rfl H) ?_
      intro v6_33 h33 nx33 H E23_13 W23_13 S23_13
      refine DJ.rd 1 [(16, (some v16_24))] h33 nx33 (r_load rfl rfl H) ?_
      intro v17_35 H Q34
      obtain ⟨q34, H⟩ := hEq_true H
      refine DJ.rd 3 [(18, (some v18_26))] h33 nx33 (r_load rfl rfl H) ?_
      intro v19_37 H Q36
      obtain ⟨q36, H⟩ := hEq_true H
      refine DJ.rd 7 [(22, (some v22_28))] h33 nx33 (r_load rfl rfl H) ?_
      intro v23_39 H Q38
      obtain ⟨q38, H⟩ := hEq_true H
      refine DJ.rd 9 [(24, (some v24_30))] h33 nx33 (r_load rfl rfl H) ?_
      intro v25_41 H Q40
      obtain ⟨q40, H⟩ := hEq_true H
      obtain ⟨q42, H⟩ := hSame_true H
      refine DJ.fu 4 [(17, (some v17_25)), (19, (some v19_27))] h33 nx33 (r_buildSlice (vs := [(0, v17_25), (1, v19_27)]) rfl (And.intro rfl (And.intro rfl (And.intro rfl (And.intro rfl True.intro)))) H) ?_
      intro v20_43 h43 nx43 H S23_4
      have I23_4 := S23_4.1
      refine DJ.rd 7 [(22, (some v22_28))] h43 nx43 (r_load rfl rfl H) ?_
      intro v23_45 H Q44
      obtain ⟨q44, H⟩ := hEq_true H
      refine DJ.rd 9 [(24, (some v24_30))] h43 nx43 (r_load rfl rfl H) ?_
      intro v25_47 H Q46
      obtain ⟨q46, H⟩ := hEq_true H
      obtain ⟨q48, H⟩ := hSame_true H
      obtain ⟨q49, H⟩ := hSame_true H
      refine DJ.fu 5 [(20, (some v20_43))] h43 nx43 (r_call (args := [v20_43]) rfl rfl rfl (And.intro rfl True.intro) Tryz.call152 (sim152 H)) ?_
      intro v21_50 h50 nx50 H S23_5
      have I23_5 := S23_5.1
      refine DJ.rd 7 [(22, (some v22_28))] h50 nx50 (r_load rfl rfl H) ?_
      intro v23_52 H Q51
      obtain ⟨q51, H⟩ := hEq_true H
      refine DJ.rd 9 [(24, (some v24_30))] h50 nx50 (r_load rfl rfl H) ?_
      intro v25_54 H Q53
      obtain ⟨q53, H⟩ := hEq_true H
      obtain ⟨q55, H⟩ := hSame_true H
      obtain ⟨q56, H⟩ := hSame_true H
      refine DJ.fu 11 [(26, (some v26_32))] h50 nx50 (r_call (args := [v26_32]) rfl rfl rfl (And.intro rfl True.intro) Tryz.call153 (sim153 H)) ?_
      intro v27_57 h57 nx57 H S23_11
      have I23_11 := S23_11.1
      refine DJ.any 12 [(21, (some v21_50)), (27, (some v27_57))] (a_build (vs := [(0, v21_50), (1, v27_57)]) rfl (And.intro rfl (And.intro rfl (And.intro rfl (And.intro rfl True.intro)))) H) ?_
      intro v28_58 H S23_12
      obtain ⟨q59, H⟩ := hSame_true H
      refine DJ.wr 14 [(6, (some v6_33)), (28, (some v28_58))] h57 nx57 (r_store rfl rfl rfl H) ?_
      intro h60 H S23_14
      have I23_14 := S23_14.1
      exact CJ.draw1 [(some v16_24), (some v17_25), (some v18_26), (some v19_27), (some v20_43), (some v21_50), (some v22_28), (some v23_29), (some v24_30), (some v25_31), (some v26_32), (some v27_57), (some v28_58), (some v6_33), none] [4, 5, 11, 14] [(h33, nx33), (h43, nx43), (h50, nx50), (h57, nx57), (h60, nx57)] [(10, nx), (13, nx32)] [0, 1, 2, 3, 4, 5, 6, 7, 8, 9, 10, 11, 12, 13, 14] [0, 1, 2, 3, 4, 5, 6, 7, 8, 9, 10, 11, 12, 13, 14] [0, 1, 2, 3, 4, 5, 6, 7, 8, 9, 10, 11, 12, 13, 14] (by decide +kernel) (And.intro (F_any (Ti := [(2, (some a2_5))]) hm23 [(2, none)] (by decide +kernel) (And.intro rfl (And.intro rfl True.intro)) (guard_no rfl) rfl rfl S23_0) (And.intro (F_read (Ti := [(16, (some v16_24))]) hm23 [(16, some 0)] (by decide +kernel) (And.intro rfl (And.intro rfl True.intro)) (guard_no rfl) rfl rfl 0 1 (by decide +kernel) (And.intro (opR_eq q34 Q34) True.intro)) (And.intro (F_any (Ti := [(3, (some a3_5))]) hm23 [(3, none)] (by decide +kernel) (And.intro rfl (And.intro rfl True.intro)) (guard_no rfl) rfl rfl S23_2) (And.intro (F_read (Ti := [(18, (some v18_26))]) hm23 [(18, some 2)] (by decide +kernel) (And.intro rfl (And.intro rfl True.intro)) (guard_no rfl) rfl rfl 0 1 (by decide +kernel) (And.intro (opR_eq q36 Q36) True.intro)) (And.intro (F_eff (Ti := [(17, (some v17_25)), (19, (some v19_27))]) hm23 [(17, some 1), (19, some 3)] (by decide +kernel) (And.intro rfl (And.intro rfl (And.intro rfl (And.intro rfl True.intro)))) (guard_no rfl) rfl 0 rfl (by decide +kernel) S23_4 (Grow.refl _ _) (show nx ≤ nx33 by omega) (And.intro (show nx < nx33 ∨ nx43 ≤ nx by omega) (And.intro (show nx32 < nx33 ∨ nx43 ≤ nx32 by omega) True.intro))) (And.intro (F_eff (Ti := [(20, (some v20_43))]) hm23 [(20, some 4)] (by decide +kernel) (And.intro rfl (And.intro rfl True.intro)) (guard_no rfl) rfl 1 rfl (by decide +kernel) S23_5 (Grow.refl _ _) (show nx ≤ nx43 by omega) (And.intro (show nx < nx43 ∨ nx50 ≤ nx by omega) (And.intro (show nx32 < nx43 ∨ nx50 ≤ nx32 by omega) True.intro))) (And.intro (F_any (Ti := [(2, (some a2_5))]) hm23 [(2, none)] (by decide +kernel) (And.intro rfl (And.intro rfl True.intro)) (guard_no rfl) rfl rfl S23_6) (And.intro (F_read (Ti := [(22, (some v22_28))]) hm23 [(22, some 6)] (by decide +kernel) (And.intro rfl (And.intro rfl True.intro)) (guard_no rfl) rfl rfl 0 3 (by decide +kernel) (And.intro (opR_eq q38 Q38) (And.intro (opR_eq q44 Q44) (And.intro (opR_eq q51 Q51) True.intro)))) (And.intro (F_any (Ti := [(3, (some a3_5))]) hm23 [(3, none)] (by decide +kernel) (And.intro rfl (And.intro rfl True.intro)) (guard_no rfl) rfl rfl S23_8) (And.intro (F_read (Ti := [(24, (some v24_30))]) hm23 [(24, some 8)] (by decide +kernel) (And.intro rfl (And.intro rfl True.intro)) (guard_no rfl) rfl rfl 0 3 (by decide +kernel) (And.intro (opR_eq q40 Q40) (And.intro (opR_eq q46 Q46) (And.intro (opR_eq q53 Q53) True.intro)))) (And.intro (F_fresh (Ti := [(23, (some v23_29)), (25, (some v25_31))]) hm23 [(23, some 7), (25, some 9)] (by decide +kernel) (And.intro rfl (And.intro rfl (And.intro rfl (And.intro rfl True.intro)))) (guard_no rfl) rfl nx rfl (by omega) (And.intro (fun _ => rfl) (And.intro (fun e_ => by exfalso; omega) True.intro)) 0 3 (by decide +kernel) (And.intro (S23_10 _ _ (show nx < nx33 by omega) q42) (And.intro (S23_10 _ _ (show nx < nx43 by omega) q48) (And.intro (S23_10 _ _ (show nx < nx50 by omega) q55) True.intro)))) (And.intro (F_eff (Ti := [(26, (some v26_32))]) hm23 [(26, some 10)] (by decide +kernel) (And.intro rfl (And.intro rfl True.intro)) (guard_no rfl) rfl 2 rfl (by decide +kernel) S23_11 (Grow.refl _ _) (show nx ≤ nx50 by omega) (And.intro (show nx < nx50 ∨ nx57 ≤ nx by omega) (And.intro (show nx32 < nx50 ∨ nx57 ≤ nx32 by omega) True.intro))) (And.intro (F_any (Ti := [(21, (some v21_50)), (27, (some v27_57))]) hm23 [(21, some 5), (27, some 11)] (by decide +kernel) (And.intro rfl (And.intro rfl (And.intro rfl (And.intro rfl True.intro)))) (guard_no rfl) rfl rfl S23_12) (And.intro (F_fresh (Ti := []) hm23 [] (by decide +kernel) True.intro (guard_no rfl) rfl nx32 rfl (by omega) (And.intro (fun e_ => by exfalso; omega) (And.intro (fun _ => rfl) True.intro)) 0 4 (by decide +kernel) (And.intro (S23_13 _ _ (show nx32 < nx33 by omega) rfl) (And.intro (S23_13 _ _ (show nx32 < nx43 by omega) q49) (And.intro (S23_13 _ _ (show nx32 < nx50 by omega) q56) (And.intro (S23_13 _ _ (show nx32 < nx57 by omega) q59) True.intro))))) (And.intro (F_eff (Ti := [(6, (some v6_33)), (28, (some v28_58))]) hm23 [(6, some 13), (28, some 12)] (by decide +kernel) (And.intro rfl (And.intro rfl (And.intro rfl (And.intro rfl True.intro)))) (guard_no rfl) rfl 3 rfl (by decide +kernel) S23_14 (Grow.refl _ _) (show nx ≤ nx57 by omega) (And.intro (show nx < nx57 ∨ nx57 ≤ nx by omega) (And.intro (show nx32 < nx57 ∨ nx57 ≤ nx32 by omega) True.intro))) True.intro))))))))))))))) rfl (And.intro (by omega) (And.intro (by omega) (And.intro (by omega) (And.intro (by omega) (And.intro (by omega) True.intro))))) (And.intro (by omega) (And.intro (by omega) True.intro)) (Grow.trans (Grow.trans (Grow.refl _ _) W23_10) W23_13) [(4, none), (6, some 13)] [(4, (some a4_5)), (6, (some v6_33))] (by decide +kernel) (And.intro rfl (And.intro rfl (And.intro rfl (And.intro rfl True.intro)))) rfl (Exists.intro (a4_5, v6_33, ()) (And.intro rfl H))
    · intro ⟨a4_7, a6_7, _u⟩ h nx H
      refine CJ.seq ?_
      refine CJ.region ?_
      refine OJ.rd rfl rfl rfl (r_fieldAddr rfl rfl H) ?_
      intro v29_8 H
      refine OJ.rd rfl rfl rfl (r_load rfl rfl H) ?_
      intro v30_9 H
      refine OJ.fu rfl rfl rfl (r_call (args := [v30_9]) rfl rfl rfl (And.intro rfl True.intro) Tryz.call154 (sim154 H)) ?_
      intro v31_10 h10 nx10 H
      refine OJ.fin ?_
      refine CJ.seq ?_
      refine CJ.region ?_
      refine OJ.rd rfl rfl rfl (r_fieldAddr rfl rfl H) ?_
      intro v32_11 H
      refine OJ.rd rfl rfl rfl (r_load rfl rfl H) ?_
      intro v33_12 H
      refine OJ.fu rfl rfl rfl (r_call (args := [v33_12, (.func (.func 156) ⟨[]⟩ ⟨[]⟩)]) rfl rfl rfl (And.intro rfl (And.intro rfl True.intro)) Tryz.call155 (sim155 H)) ?_
      intro v34_13 h13 nx13 H
      refine OJ.fin ?_
      refine CJ.seq (CJ.cut (X := Value × Value × Unit) (fun x h nx => H127_j14 k  x.1 x.2.1 h nx) (fun x => [(4, some x.1), (6, some x.2.1)]) ?_ ?_)
      · refine CJ.seq ?_
        refine CJ.region ?_
        refine OJ.rd rfl rfl rfl (r_load rfl rfl H) ?_
        intro v35_20 H
        refine OJ.fu rfl rfl rfl (r_call (args := [v35_20]) rfl rfl rfl (And.intro rfl True.intro) Tryz.call145 (sim145 H)) ?_
        intro v36_21 h21 nx21 H
        refine OJ.rd rfl rfl rfl (r_bin rfl rfl rfl H) ?_
        intro v37_22 H
        refine OJ.fin ?_
        refine CJ.ite rfl H (fun H => ?_) (fun H => ?_)
        · cases H
        · exact CJ.skip [(4, (some a4_7)), (6, (some a6_7))] (And.intro rfl (And.intro rfl True.intro)) (Exists.intro (a4_7, a6_7, ()) (And.intro rfl H))
      · intro ⟨a4_15, a6_15, _u⟩ h nx H
        refine CJ.seq ?_
        refine CJ.region ?_
        refine OJ.rd rfl rfl rfl (r_load rfl rfl H) ?_
        intro v39_16 H
        refine OJ.wr rfl rfl (r_store rfl rfl rfl H) ?_
        intro h17 H
        refine OJ.mv rfl rfl rfl (r_assign rfl rfl) ?_
        refine OJ.fin ?_
        refine CJ.ret1 ?_
        obtain ⟨r18, H, l18⟩ := load_val H
        obtain ⟨n19, H⟩ := hNT_true H
        exact ret_gen (vs := [r18, (.int .i64 (.ofNat 0))]) (Or.inr rfl) (And.intro (Exists.intro a4_15 (And.intro rfl l18)) (And.intro rfl (And.intro n19 True.intro))) H

/-! 50 -/
noncomputable def H50_j1 (k : KV)  (a0_2 : Value) (h : Heap) (nx : Nat) : Bool :=
  hBuildSlice Tryz.prog 31 0 [] h nx fun v5_3 h3 nx3 =>
  hAppend Tryz.prog 31 31 v5_3 a0_2 h3 nx3 fun v7_4 h4 nx4 =>
  k v7_4 h4 nx4
noncomputable def H50 (a0 : Value) (h : Heap) (nx : Nat) (k : KV) : Bool :=
  binK Tryz.prog .eql 31 (.tmp 3) (.const (.slice none 0 0)) a0 (.slice none 0 0) fun v4_5 =>
  hIf v4_5 (fun _ => false) (fun _ => H50_j1 k  a0 h nx)
theorem sim50 {a0 : Value} {h : Heap} {nx : Nat} {k : KV} (H : H50 a0 h nx k = true) : ∃ v h' nx', k v h' nx' = true ∧ CallSim Tryz.prog 50 [a0] h nx v h' nx' := by
  refine fn_rule Tryz.func50 rfl rfl ?_
  refine CJ.seq ?_
  refine CJ.region ?_
  refine OJ.mv rfl rfl rfl (r_assign rfl rfl) ?_
  refine OJ.fin ?_
  refine CJ.seq (CJ.cut (X := Value × Unit) (fun x h nx => H50_j1 k  x.1 h nx) (fun x => [(0, some x.1)]) ?_ ?_)
  · refine CJ.seq ?_
    refine CJ.region ?_
    refine OJ.mv rfl rfl rfl (r_move rfl rfl) ?_
    refine OJ.rd rfl rfl rfl (r_bin rfl rfl rfl H) ?_
    intro v4_5 H
    refine OJ.fin ?_
    refine CJ.ite rfl H (fun H => ?_) (fun H => ?_)
    · cases H
    · exact CJ.skip [(0, (some a0))] (And.intro rfl True.intro) (Exists.intro (a0, ()) (And.intro rfl H))
  · intro ⟨a0_2, _u⟩ h nx H
    refine CJ.seq ?_
    refine CJ.region ?_
    refine OJ.fu rfl rfl rfl (r_buildSlice (vs := []) rfl True.intro H) ?_
    intro v5_3 h3 nx3 H
    refine OJ.mv rfl rfl rfl (r_move rfl rfl) ?_
    refine OJ.fu rfl rfl rfl (r_append1 rfl rfl (And.intro rfl (And.intro rfl True.intro)) rfl H) ?_
    intro v7_4 h4 nx4 H
    refine OJ.mv rfl rfl rfl (r_assign rfl rfl) ?_
    refine OJ.fin ?_
    refine CJ.ret1 ?_
    exact ret_one (Or.inr rfl) rfl rfl H

/-! 51 -/
noncomputable def H51_j1 (k : KV)   (h : Heap) (nx : Nat) : Bool :=
  false
noncomputable def H51 (a0 : Value) (h : Heap) (nx : Nat) (k : KV) : Bool :=
  binK Tryz.prog .eql 32 (.tmp 3) (.const (.slice none 0 0)) a0 (.slice none 0 0) fun v4_3 =>
  hIf v4_3 (fun _ => k (.slice none 0 0) h nx) (fun _ => false)
theorem sim51 {a0 : Value} {h : Heap} {nx : Nat} {k : KV} (H : H51 a0 h nx k = true) : ∃ v h' nx', k v h' nx' = true ∧ CallSim Tryz.prog 51 [a0] h nx v h' nx' := by
  refine fn_rule Tryz.func51 rfl rfl ?_
  refine CJ.seq ?_
  refine CJ.region ?_
  refine OJ.mv rfl rfl rfl (r_assign rfl rfl) ?_
  refine OJ.fin ?_
  refine CJ.seq (CJ.cut (X := Unit) (fun x h nx => H51_j1 k   h nx) (fun x => []) ?_ ?_)
  · refine CJ.seq ?_
    refine CJ.region ?_
    refine OJ.mv rfl rfl rfl (r_move rfl rfl) ?_
    refine OJ.rd rfl rfl rfl (r_bin rfl rfl rfl H) ?_
    intro v4_3 H
    refine OJ.fin ?_
    refine CJ.ite rfl H (fun H => ?_) (fun H => ?_)
    · refine CJ.seq ?_
      refine CJ.region ?_
      refine OJ.mv rfl rfl rfl (r_assign rfl rfl) ?_
      refine OJ.fin ?_
      refine CJ.ret1 ?_
      exact ret_one (Or.inr rfl) rfl rfl H
    · cases H
  · intro _u h nx H
    cases H

/-! 117 -/
noncomputable def H117_j3 (k : KV)  (a2_4 : Value) (h : Heap) (nx : Nat) : Bool :=
  loadK Tryz.prog 34 a2_4 h fun r5 => k (resV [r5]) h nx
noncomputable def H117 (a0 : Value) (h : Heap) (nx : Nat) (k : KV) : Bool :=
  hBox a0 h nx fun v1_1 h1 nx1 =>
  hAlloc Tryz.prog 34 h1 nx1 fun v2_2 h2 nx2 =>
  hFieldAddr Tryz.prog 34 v1_1 0 fun v3_7 =>
  loadK Tryz.prog 31 v3_7 h2 fun v4_8 =>
  hFieldAddr Tryz.prog 34 v1_1 1 fun v6_9 =>
  loadK Tryz.prog 32 v6_9 h2 fun v7_10 =>
  H50 v4_8 h2 nx2 fun v5_11 h11 nx11 =>
  loadK Tryz.prog 32 v6_9 h11 fun v7_13 =>
  hEq v7_13 v7_10 fun _ => H51 v7_10 h11 nx11 fun v8_14 h14 nx14 =>
  hBuild Tryz.prog 34 [(0, v5_11), (1, v8_14)] fun v9_15 =>
  storeK Tryz.prog 34 v2_2 v9_15 h14 fun h16 =>
  H117_j3 k  v2_2 h16 nx14
theorem sim117 {a0 : Value} {h : Heap} {nx : Nat} {k : KV} (H : H117 a0 h nx k = true) : ∃ v h' nx', k v h' nx' = true ∧ CallSim Tryz.prog 117 [a0] h nx v h' nx' := by
  refine fn_rule Tryz.func117 rfl rfl ?_
  refine CJ.seq ?_
  refine CJ.region ?_
  refine OJ.fu rfl rfl rfl (r_box rfl rfl H) ?_
  intro v1_1 h1 nx1 H
  refine OJ.fu rfl rfl rfl (r_alloc1 rfl H) ?_
  intro v2_2 h2 nx2 H
  refine OJ.fin ?_
  refine CJ.seq (CJ.cut (X := Value × Unit) (fun x h nx => H117_j3 k  x.1 h nx) (fun x => [(2, some x.1)]) ?_ ?_)
  · refine DJ.hm [0, 1, 3, 0, 8, 31, 63, 127] (by decide +kernel) ?_
    intro hm6
    refine DJ.any 0 [(1, (some v1_1))] (a_fieldAddr rfl rfl H) ?_
    intro v3_7 H S6_0
    refine DJ.rd 1 [(3, (some v3_7))] h2 nx2 (r_load rfl rfl H) ?_
    intro v4_8 H S6_1
    refine DJ.any 3 [(1, (some v1_1))] (a_fieldAddr rfl rfl H) ?_
    intro v6_9 H S6_3
    refine DJ.rd 4 [(6, (some v6_9))] h2 nx2 (r_load rfl rfl H) ?_
    intro v7_10 H S6_4
    refine DJ.fu 2 [(4, (some v4_8))] h2 nx2 (r_call (args := [v4_8]) rfl rfl rfl (And.intro rfl True.intro) Tryz.call50 (sim50 H)) ?_
    intro v5_11 h11 nx11 H S6_2
    have I6_2 := S6_2.1
    refine DJ.rd 4 [(6, (some v6_9))] h11 nx11 (r_load rfl rfl H) ?_
    intro v7_13 H Q12
    obtain ⟨q12, H⟩ := hEq_true H
    refine DJ.fu 5 [(7, (some v7_10))] h11 nx11 (r_call (args := [v7_10]) rfl rfl rfl (And.intro rfl True.intro) Tryz.call51 (sim51 H)) ?_
    intro v8_14 h14 nx14 H S6_5
    have I6_5 := S6_5.1
    refine DJ.any 6 [(5, (some v5_11)), (8, (some v8_14))] (a_build (vs := [(0, v5_11), (1, v8_14)]) rfl (And.intro rfl (And.intro rfl (And.intro rfl (And.intro rfl True.intro)))) H) ?_
    intro v9_15 H S6_6
    refine DJ.wr 7 [(2, (some v2_2)), (9, (some v9_15))] h14 nx14 (r_store rfl rfl rfl H) ?_
    intro h16 H S6_7
    have I6_7 := S6_7.1
    exact CJ.draw1 [(some v3_7), (some v4_8), (some v5_11), (some v6_9), (some v7_10), (some v8_14), (some v9_15), none] [2, 5, 7] [(h2, nx2), (h11, nx11), (h14, nx14), (h16, nx14)] [] [0, 1, 2, 3, 4, 5, 6, 7] [0, 1, 2, 3, 4, 5, 6, 7] [0, 1, 2, 3, 4, 5, 6, 7] (by decide +kernel) (And.intro (F_any (Ti := [(1, (some v1_1))]) hm6 [(1, none)] (by decide +kernel) (And.intro rfl (And.intro rfl True.intro)) (guard_no rfl) rfl rfl S6_0) (And.intro (F_read (Ti := [(3, (some v3_7))]) hm6 [(3, some 0)] (by decide +kernel) (And.intro rfl (And.intro rfl True.intro)) (guard_no rfl) rfl rfl 0 1 (by decide +kernel) (And.intro S6_1 True.intro)) (And.intro (F_eff (Ti := [(4, (some v4_8))]) hm6 [(4, some 1)] (by decide +kernel) (And.intro rfl (And.intro rfl True.intro)) (guard_no rfl) rfl 0 rfl (by decide +kernel) S6_2 (Grow.refl _ _) (show nx2 ≤ nx2 by omega) True.intro) (And.intro (F_any (Ti := [(1, (some v1_1))]) hm6 [(1, none)] (by decide +kernel) (And.intro rfl (And.intro rfl True.intro)) (guard_no rfl) rfl rfl S6_3) (And.intro (F_read (Ti := [(6, (some v6_9))]) hm6 [(6, some 3)] (by decide +kernel) (And.intro rfl (And.intro rfl True.intro)) (guard_no rfl) rfl rfl 0 2 (by decide +kernel) (And.intro S6_4 (And.intro (opR_eq q12 Q12) True.intro))) (And.intro (F_eff (Ti := [(7, (some v7_10))]) hm6 [(7, some 4)] (by decide +kernel) (And.intro rfl (And.intro rfl True.intro)) (guard_no rfl) rfl 1 rfl (by decide +kernel) S6_5 (Grow.refl _ _) (show nx2 ≤ nx11 by omega) True.intro) (And.intro (F_any (Ti := [(5, (some v5_11)), (8, (some v8_14))]) hm6 [(5, some 2), (8, some 5)] (by decide +kernel) (And.intro rfl (And.intro rfl (And.intro rfl (And.intro rfl True.intro)))) (guard_no rfl) rfl rfl S6_6) (And.intro (F_eff (Ti := [(2, (some v2_2)), (9, (some v9_15))]) hm6 [(2, none), (9, some 6)] (by decide +kernel) (And.intro rfl (And.intro rfl (And.intro rfl (And.intro rfl True.intro)))) (guard_no rfl) rfl 2 rfl (by decide +kernel) S6_7 (Grow.refl _ _) (show nx2 ≤ nx14 by omega) True.intro) True.intro)))))))) rfl (And.intro (by omega) (And.intro (by omega) (And.intro (by omega) (And.intro (by omega) True.intro)))) True.intro (Grow.refl _ _) [(2, none)] [(2, (some v2_2))] (by decide +kernel) (And.intro rfl (And.intro rfl True.intro)) rfl (Exists.intro (v2_2, ()) (And.intro rfl H))
  · intro ⟨a2_4, _u⟩ h nx H
    refine CJ.ret1 ?_
    obtain ⟨r5, H, l5⟩ := load_val H
    exact ret_gen (vs := [r5]) (Or.inr rfl) (And.intro (Exists.intro a2_4 (And.intro rfl l5)) True.intro) H

/-! 148 -/
noncomputable def H148_j1 (k : KV)  (a5_2 : Value) (h : Heap) (nx : Nat) : Bool :=
  k a5_2 h nx
noncomputable def H148_j11 (k : KV) (ih8 : Value → Value → Value → Heap → Nat → Bool)  (h : Heap) (nx : Nat) : Bool :=
  false
noncomputable def H148_l8 (k : KV)  (n : Nat) : Value → Value → Value → Heap → Nat → Bool :=
  Nat.rec (motive := fun _ => Value → Value → Value → Heap → Nat → Bool) (fun _ _ _ _ _ => false) (fun _ ih8 a5_9 a13_9 a14_9 h nx => binK Tryz.prog .lss 3 (.tmp 14) (.tmp 13) a14_9 a13_9 fun v15_10 =>
  hIf v15_10 (fun _ => false) (fun _ => H148_j1 k  a5_9 h nx)) n
noncomputable def H148 (a0 : Value) (a1 : Value) (h : Heap) (nx : Nat) (k : KV) : Bool :=
  hNil a0 fun v9_3 =>
  hFieldAddr Tryz.prog 176 v9_3 0 fun v10_4 =>
  hFieldAddr Tryz.prog 36 v10_4 4 fun v11_5 =>
  loadK Tryz.prog 30 v11_5 h fun v12_6 =>
  lenK Tryz.prog 30 v12_6 h fun v13_7 =>
  H148_l8 k  200000 (.slice none 0 0) v13_7 (.int .i64 (.ofNat 0)) h nx
theorem sim148 {a0 a1 : Value} {h : Heap} {nx : Nat} {k : KV} (H : H148 a0 a1 h nx k = true) : ∃ v h' nx', k v h' nx' = true ∧ CallSim Tryz.prog 148 [a0, a1] h nx v h' nx' := by
  refine fn_rule Tryz.func148 rfl rfl ?_
  refine CJ.seq ?_
  refine CJ.region ?_
  refine OJ.mv rfl rfl rfl (r_assign rfl rfl) ?_
  refine OJ.fin ?_
  refine CJ.seq ?_
  refine CJ.region ?_
  refine OJ.mv rfl rfl rfl (r_assign rfl rfl) ?_
  refine OJ.fin ?_
  refine CJ.seq (CJ.cut (X := Value × Unit) (fun x h nx => H148_j1 k  x.1 h nx) (fun x => [(5, some x.1)]) ?_ ?_)
  · refine CJ.seq ?_
    refine CJ.region ?_
    refine OJ.mv rfl rfl rfl (r_move rfl rfl) ?_
    refine OJ.rd rfl rfl rfl (r_nil rfl rfl H) ?_
    intro v9_3 H
    refine OJ.rd rfl rfl rfl (r_fieldAddr rfl rfl H) ?_
    intro v10_4 H
    refine OJ.rd rfl rfl rfl (r_fieldAddr rfl rfl H) ?_
    intro v11_5 H
    refine OJ.rd rfl rfl rfl (r_load rfl rfl H) ?_
    intro v12_6 H
    refine OJ.rd rfl rfl rfl (r_len (x := default) rfl rfl (And.intro rfl True.intro) rfl H) ?_
    intro v13_7 H
    refine OJ.mv rfl rfl rfl (r_move rfl rfl) ?_
    refine OJ.fin ?_
    refine CJ.block ?_
    refine CJ.weaken [(5, (some (.slice none 0 0))), (13, (some v13_7)), (14, (some (.int .i64 (.ofNat 0))))] (And.intro rfl (And.intro rfl (And.intro rfl True.intro))) ?_
    refine CJ.loop_ind (X := Value × Value × Value × Unit) (fun n x h nx => H148_l8 k  n x.1 x.2.1 x.2.2.1 h nx) (fun x => [(5, some x.1), (13, some x.2.1), (14, some x.2.2.1)]) (fun _ _ _ => rfl) ?_ 200000 ((.slice none 0 0), v13_7, (.int .i64 (.ofNat 0)), ()) _ _ H
    intro ih8n ih8p ⟨a5_9, a13_9, a14_9, _u⟩ h nx H
    let ih8 := H148_l8 k  ih8n
    refine CJ.seq ?_
    refine CJ.region ?_
    refine OJ.rd rfl rfl rfl (r_bin rfl rfl rfl H) ?_
    intro v15_10 H
    refine OJ.fin ?_
    refine CJ.seq (CJ.cut (X := Unit) (fun x h nx => H148_j11 k ih8  h nx) (fun x => []) ?_ ?_)
    · refine CJ.ite rfl H (fun H => ?_) (fun H => ?_)
      · cases H
      · exact CJ.exit [(5, (some a5_9))] (And.intro rfl True.intro) (Exists.intro (a5_9, ()) (And.intro rfl H))
    · intro _u h nx H
      cases H
  · intro ⟨a5_2, _u⟩ h nx H
    refine CJ.seq ?_
    refine CJ.region ?_
    refine OJ.mv rfl rfl rfl (r_move rfl rfl) ?_
    refine OJ.mv rfl rfl rfl (r_assign rfl rfl) ?_
    refine OJ.fin ?_
    refine CJ.ret1 ?_
    exact ret_one (Or.inr rfl) rfl rfl H

/-! 130 -/
noncomputable def H130_j9 (k : KV)   (h : Heap) (nx : Nat) : Bool :=
  false
noncomputable def H130_j7 (k : KV)  (a0_8 : Value) (a4_8 : Value) (a5_8 : Value) (h : Heap) (nx : Nat) : Bool :=
  hFieldAddr Tryz.prog 86 a4_8 0 fun v46_11 =>
  loadK Tryz.prog 3 v46_11 h fun v47_12 =>
  binK Tryz.prog .eql 3 (.tmp 47) (.const (.int .i64 (.ofNat 1))) v47_12 (.int .i64 (.ofNat 1)) fun v48_13 =>
  hIf v48_13 (fun _ => loadK Tryz.prog 34 a5_8 h fun v51_14 =>
  H117 v51_14 h nx fun v52_15 h15 nx15 =>
  hNil a0_8 fun v53_16 =>
  hFieldAddr Tryz.prog 176 v53_16 0 fun v54_17 =>
  hFieldAddr Tryz.prog 36 v54_17 7 fun v55_18 =>
  storeK Tryz.prog 3 v55_18 (.int .i64 (.ofNat 4)) h15 fun h19 =>
  hNil a0_8 fun v56_20 =>
  hFieldAddr Tryz.prog 176 v56_20 0 fun v57_21 =>
  hFieldAddr Tryz.prog 36 v57_21 8 fun v58_22 =>
  storeK Tryz.prog 34 v58_22 v52_15 h19 fun h23 =>
  hRet [] h23 nx15 k) (fun _ => false)
noncomputable def H130_j33 (k : KV) (ih30 : Value → Value → Value → Value → Value → Heap → Nat → Bool)  (h : Heap) (nx : Nat) : Bool :=
  false
noncomputable def H130_l30 (k : KV)  (n : Nat) : Value → Value → Value → Value → Value → Heap → Nat → Bool :=
  Nat.rec (motive := fun _ => Value → Value → Value → Value → Value → Heap → Nat → Bool) (fun _ _ _ _ _ _ _ => false) (fun _ ih30 a0_31 a4_31 a5_31 a32_31 a33_31 h nx => binK Tryz.prog .lss 3 (.tmp 33) (.tmp 32) a33_31 a32_31 fun v34_32 =>
  hIf v34_32 (fun _ => false) (fun _ => H130_j7 k  a0_31 a4_31 a5_31 h nx)) n
noncomputable def H130_j5 (k : KV)  (a0_6 : Value) (a4_6 : Value) (a5_6 : Value) (h : Heap) (nx : Nat) : Bool :=
  hNil a0_6 fun v27_24 =>
  hFieldAddr Tryz.prog 176 v27_24 0 fun v28_25 =>
  hFieldAddr Tryz.prog 36 v28_25 3 fun v29_26 =>
  loadK Tryz.prog 3 v29_26 h fun v30_27 =>
  H148 a0_6 v30_27 h nx fun v31_28 h28 nx28 =>
  lenK Tryz.prog 31 v31_28 h28 fun v32_29 =>
  H130_l30 k  200000 a0_6 a4_6 a5_6 v32_29 (.int .i64 (.ofNat 0)) h28 nx28
noncomputable def H130_j3 (k : KV)  (a0_4 : Value) (a4_4 : Value) (a5_4 : Value) (a6_4 : Value) (h : Heap) (nx : Nat) : Bool :=
  hFieldAddr Tryz.prog 86 a4_4 0 fun v20_35 =>
  loadK Tryz.prog 3 v20_35 h fun v21_36 =>
  binK Tryz.prog .eql 3 (.tmp 21) (.const (.int .i64 (.ofNat 1))) v21_36 (.int .i64 (.ofNat 1)) fun v22_37 =>
  hIf v22_37 (fun _ => loadK Tryz.prog 34 a5_4 h fun v23_38 =>
  hFieldAddr Tryz.prog 88 a6_4 2 fun v24_39 =>
  storeK Tryz.prog 34 v24_39 v23_38 h fun h40 =>
  H130_j5 k  a0_4 a4_4 a5_4 h40 nx) (fun _ => false)
noncomputable def H130 (a0 : Value) (a1 : Value) (a2 : Value) (h : Heap) (nx : Nat) (k : KV) : Bool :=
  hBox a1 h nx fun v4_1 h1 nx1 =>
  hBox a2 h1 nx1 fun v5_2 h2 nx2 =>
  hNil a0 fun v14_42 =>
  hFieldAddr Tryz.prog 176 v14_42 0 fun v15_43 =>
  hFieldAddr Tryz.prog 36 v15_43 1 fun v16_44 =>
  loadK Tryz.prog 29 v16_44 h2 fun v17_45 =>
  loadK Tryz.prog 86 v4_1 h2 fun v18_46 =>
  hBuild Tryz.prog 88 [(0, (.int .i64 (.ofNat 3))), (1, v17_45), (3, v18_46)] fun v19_47 =>
  hAlloc Tryz.prog 88 h2 nx2 fun v6_48 h48 nx48 =>
  loadK Tryz.prog 29 v16_44 h48 fun v17_50 =>
  hEq v17_50 v17_45 fun _ => loadK Tryz.prog 86 v4_1 h48 fun v18_52 =>
  hEq v18_52 v18_46 fun _ => storeK Tryz.prog 88 v6_48 v19_47 h48 fun h53 =>
  H130_j3 k  a0 v4_1 v5_2 v6_48 h53 nx48
theorem sim130 {a0 a1 a2 : Value} {h : Heap} {nx : Nat} {k : KV} (H : H130 a0 a1 a2 h nx k = true) : ∃ v h' nx', k v h' nx' = true ∧ CallSim Tryz.prog 130 [a0, a1, a2] h nx v h' nx' := by
  refine fn_rule Tryz.func130 rfl rfl ?_
  refine CJ.seq ?_
  refine CJ.region ?_
  refine OJ.fu rfl rfl rfl (r_box rfl rfl H) ?_
  intro v4_1 h1 nx1 H
  refine OJ.fu rfl rfl rfl (r_box rfl rfl H) ?_
  intro v5_2 h2 nx2 H
  refine OJ.fin ?_
  refine CJ.seq (CJ.cut (X := Value × Value × Value × Value × Unit) (fun x h nx => H130_j3 k  x.1 x.2.1 x.2.2.1 x.2.2.2.1 h nx) (fun x => [(0, some x.1), (4, some x.2.1), (5, some x.2.2.1), (6, some x.2.2.2.1)]) ?_ ?_)
  · refine DJ.hm [0, 1, 3, 7, 15, 0, 63, 0, 255] (by decide +kernel) ?_
    intro hm41
    refine DJ.mv 0 [(0, (some a0))] (a_move rfl rfl) ?_
    intro S41_0
    refine DJ.any 1 [(13, (some a0))] (a_nil rfl rfl H) ?_
    intro v14_42 H S41_1
    refine DJ.any 2 [(14, (some v14_42))] (a_fieldAddr rfl rfl H) ?_
    intro v15_43 H S41_2
    refine DJ.any 3 [(15, (some v15_43))] (a_fieldAddr rfl rfl H) ?_
    intro v16_44 H S41_3
    refine DJ.rd 4 [(16, (some v16_44))] h2 nx2 (r_load rfl rfl H) ?_
    intro v17_45 H S41_4
    refine DJ.rd 5 [(4, (some v4_1))] h2 nx2 (r_load rfl rfl H) ?_
    intro v18_46 H S41_5
    refine DJ.any 6 [(17, (some v17_45)), (18, (some v18_46))] (a_build (vs := [(0, (.int .i64 (.ofNat 3))), (1, v17_45), (3, v18_46)]) rfl (And.intro rfl (And.intro rfl (And.intro rfl (And.intro rfl (And.intro rfl (And.intro rfl True.intro)))))) H) ?_
    intro v19_47 H S41_6
    refine DJ.fu 7 [] h2 nx2 (r_alloc1 rfl H) ?_
    intro v6_48 h48 nx48 H S41_7
    have I41_7 := S41_7.1
    refine DJ.rd 4 [(16, (some v16_44))] h48 nx48 (r_load rfl rfl H) ?_
    intro v17_50 H Q49
    obtain ⟨q49, H⟩ := hEq_true H
    refine DJ.rd 5 [(4, (some v4_1))] h48 nx48 (r_load rfl rfl H) ?_
    intro v18_52 H Q51
    obtain ⟨q51, H⟩ := hEq_true H
    refine DJ.wr 8 [(6, (some v6_48)), (19, (some v19_47))] h48 nx48 (r_store rfl rfl rfl H) ?_
    intro h53 H S41_8
    have I41_8 := S41_8.1
    exact CJ.draw1 [(some a0), (some v14_42), (some v15_43), (some v16_44), (some v17_45), (some v18_46), (some v19_47), (some v6_48), none] [7, 8] [(h2, nx2), (h48, nx48), (h53, nx48)] [] [0, 1, 2, 3, 4, 5, 6, 7, 8] [0, 1, 2, 3, 4, 5, 6, 7, 8] [0, 1, 2, 3, 4, 5, 6, 7, 8] (by decide +kernel) (And.intro (F_any (Ti := [(0, (some a0))]) hm41 [(0, none)] (by decide +kernel) (And.intro rfl (And.intro rfl True.intro)) (guard_no rfl) rfl rfl S41_0) (And.intro (F_any (Ti := [(13, (some a0))]) hm41 [(13, some 0)] (by decide +kernel) (And.intro rfl (And.intro rfl True.intro)) (guard_no rfl) rfl rfl S41_1) (And.intro (F_any (Ti := [(14, (some v14_42))]) hm41 [(14, some 1)] (by decide +kernel) (And.intro rfl (And.intro rfl True.intro)) (guard_no rfl) rfl rfl S41_2) (And.intro (F_any (Ti := [(15, (some v15_43))]) hm41 [(15, some 2)] (by decide +kernel) (And.intro rfl (And.intro rfl True.intro)) (guard_no rfl) rfl rfl S41_3) (And.intro (F_read (Ti := [(16, (some v16_44))]) hm41 [(16, some 3)] (by decide +kernel) (And.intro rfl (And.intro rfl True.intro)) (guard_no rfl) rfl rfl 0 2 (by decide +kernel) (And.intro S41_4 (And.intro (opR_eq q49 Q49) True.intro))) (And.intro (F_read (Ti := [(4, (some v4_1))]) hm41 [(4, none)] (by decide +kernel) (And.intro rfl (And.intro rfl True.intro)) (guard_no rfl) rfl rfl 0 2 (by decide +kernel) (And.intro S41_5 (And.intro (opR_eq q51 Q51) True.intro))) (And.intro (F_any (Ti := [(17, (some v17_45)), (18, (some v18_46))]) hm41 [(17, some 4), (18, some 5)] (by decide +kernel) (And.intro rfl (And.intro rfl (And.intro rfl (And.intro rfl True.intro)))) (guard_no rfl) rfl rfl S41_6) (And.intro (F_eff (Ti := []) hm41 [] (by decide +kernel) True.intro (guard_no rfl) rfl 0 rfl (by decide +kernel) S41_7 (Grow.refl _ _) (show nx2 ≤ nx2 by omega) True.intro) (And.intro (F_eff (Ti := [(6, (some v6_48)), (19, (some v19_47))]) hm41 [(6, some 7), (19, some 6)] (by decide +kernel) (And.intro rfl (And.intro rfl (And.intro rfl (And.intro rfl True.intro)))) (guard_no rfl) rfl 1 rfl (by decide +kernel) S41_8 (Grow.refl _ _) (show nx2 ≤ nx48 by omega) True.intro) True.intro))))))))) rfl (And.intro (by omega) (And.intro (by omega) (And.intro (by omega) True.intro))) True.intro (Grow.refl _ _) [(0, none), (4, none), (5, none), (6, some 7)] [(0, (some a0)), (4, (some v4_1)), (5, (some v5_2)), (6, (some v6_48))] (by decide +kernel) (And.intro rfl (And.intro rfl (And.intro rfl (And.intro rfl (And.intro rfl (And.intro rfl (And.intro rfl (And.intro rfl True.intro)))))))) rfl (Exists.intro (a0, v4_1, v5_2, v6_48, ()) (And.intro rfl H))
  · intro ⟨a0_4, a4_4, a5_4, a6_4, _u⟩ h nx H
    refine CJ.seq (CJ.cut (X := Value × Value × Value × Unit) (fun x h nx => H130_j5 k  x.1 x.2.1 x.2.2.1 h nx) (fun x => [(0, some x.1), (4, some x.2.1), (5, some x.2.2.1)]) ?_ ?_)
    · refine CJ.seq ?_
      refine CJ.region ?_
      refine OJ.rd rfl rfl rfl (r_fieldAddr rfl rfl H) ?_
      intro v20_35 H
      refine OJ.rd rfl rfl rfl (r_load rfl rfl H) ?_
      intro v21_36 H
      refine OJ.rd rfl rfl rfl (r_bin rfl rfl rfl H) ?_
      intro v22_37 H
      refine OJ.fin ?_
      refine CJ.ite rfl H (fun H => ?_) (fun H => ?_)
      · refine CJ.region ?_
        refine OJ.rd rfl rfl rfl (r_load rfl rfl H) ?_
        intro v23_38 H
        refine OJ.rd rfl rfl rfl (r_fieldAddr rfl rfl H) ?_
        intro v24_39 H
        refine OJ.wr rfl rfl (r_store rfl rfl rfl H) ?_
        intro h40 H
        exact OJ.done [(0, (some a0_4)), (4, (some a4_4)), (5, (some a5_4))] (And.intro rfl (And.intro rfl (And.intro rfl True.intro))) (Exists.intro (a0_4, a4_4, a5_4, ()) (And.intro rfl H))
      · cases H
    · intro ⟨a0_6, a4_6, a5_6, _u⟩ h nx H
      refine CJ.seq (CJ.cut (X := Value × Value × Value × Unit) (fun x h nx => H130_j7 k  x.1 x.2.1 x.2.2.1 h nx) (fun x => [(0, some x.1), (4, some x.2.1), (5, some x.2.2.1)]) ?_ ?_)
      · refine CJ.seq ?_
        refine CJ.region ?_
        refine OJ.mv rfl rfl rfl (r_move rfl rfl) ?_
        refine OJ.mv rfl rfl rfl (r_move rfl rfl) ?_
        refine OJ.rd rfl rfl rfl (r_nil rfl rfl H) ?_
        intro v27_24 H
        refine OJ.rd rfl rfl rfl (r_fieldAddr rfl rfl H) ?_
        intro v28_25 H
        refine OJ.rd rfl rfl rfl (r_fieldAddr rfl rfl H) ?_
        intro v29_26 H
        refine OJ.rd rfl rfl rfl (r_load rfl rfl H) ?_
        intro v30_27 H
        refine OJ.fu rfl rfl rfl (r_call (args := [a0_6, v30_27]) rfl rfl rfl (And.intro rfl (And.intro rfl True.intro)) Tryz.call148 (sim148 H)) ?_
        intro v31_28 h28 nx28 H
        refine OJ.rd rfl rfl rfl (r_len (x := default) rfl rfl (And.intro rfl True.intro) rfl H) ?_
        intro v32_29 H
        refine OJ.mv rfl rfl rfl (r_move rfl rfl) ?_
        refine OJ.fin ?_
        refine CJ.block ?_
        refine CJ.weaken [(0, (some a0_6)), (4, (some a4_6)), (5, (some a5_6)), (32, (some v32_29)), (33, (some (.int .i64 (.ofNat 0))))] (And.intro rfl (And.intro rfl (And.intro rfl (And.intro rfl (And.intro rfl True.intro))))) ?_
        refine CJ.loop_ind (X := Value × Value × Value × Value × Value × Unit) (fun n x h nx => H130_l30 k  n x.1 x.2.1 x.2.2.1 x.2.2.2.1 x.2.2.2.2.1 h nx) (fun x => [(0, some x.1), (4, some x.2.1), (5, some x.2.2.1), (32, some x.2.2.2.1), (33, some x.2.2.2.2.1)]) (fun _ _ _ => rfl) ?_ 200000 (a0_6, a4_6, a5_6, v32_29, (.int .i64 (.ofNat 0)), ()) _ _ H
        intro ih30n ih30p ⟨a0_31, a4_31, a5_31, a32_31, a33_31, _u⟩ h nx H
        let ih30 := H130_l30 k  ih30n
        refine CJ.seq ?_
        refine CJ.region ?_
        refine OJ.rd rfl rfl rfl (r_bin rfl rfl rfl H) ?_
        intro v34_32 H
        refine OJ.fin ?_
        refine CJ.seq (CJ.cut (X := Unit) (fun x h nx => H130_j33 k ih30  h nx) (fun x => []) ?_ ?_)
        · refine CJ.ite rfl H (fun H => ?_) (fun H => ?_)
          · cases H
          · exact CJ.exit [(0, (some a0_31)), (4, (some a4_31)), (5, (some a5_31))] (And.intro rfl (And.intro rfl (And.intro rfl True.intro))) (Exists.intro (a0_31, a4_31, a5_31, ()) (And.intro rfl H))
        · intro _u h nx H
          cases H
      · intro ⟨a0_8, a4_8, a5_8, _u⟩ h nx H
        refine CJ.seq (CJ.cut (X := Unit) (fun x h nx => H130_j9 k   h nx) (fun x => []) ?_ ?_)
        · refine CJ.seq ?_
          refine CJ.region ?_
          refine OJ.rd rfl rfl rfl (r_fieldAddr rfl rfl H) ?_
          intro v46_11 H
          refine OJ.rd rfl rfl rfl (r_load rfl rfl H) ?_
          intro v47_12 H
          refine OJ.rd rfl rfl rfl (r_bin rfl rfl rfl H) ?_
          intro v48_13 H
          refine OJ.fin ?_
          refine CJ.ite rfl H (fun H => ?_) (fun H => ?_)
          · refine CJ.seq ?_
            refine CJ.region ?_
            refine OJ.mv rfl rfl rfl (r_move rfl rfl) ?_
            refine OJ.mv rfl rfl rfl (r_move rfl rfl) ?_
            refine OJ.rd rfl rfl rfl (r_load rfl rfl H) ?_
            intro v51_14 H
            refine OJ.fu rfl rfl rfl (r_call (args := [v51_14]) rfl rfl rfl (And.intro rfl True.intro) Tryz.call117 (sim117 H)) ?_
            intro v52_15 h15 nx15 H
            refine OJ.rd rfl rfl rfl (r_nil rfl rfl H) ?_
            intro v53_16 H
            refine OJ.rd rfl rfl rfl (r_fieldAddr rfl rfl H) ?_
            intro v54_17 H
            refine OJ.rd rfl rfl rfl (r_fieldAddr rfl rfl H) ?_
            intro v55_18 H
            refine OJ.wr rfl rfl (r_store rfl rfl rfl H) ?_
            intro h19 H
            refine OJ.rd rfl rfl rfl (r_nil rfl rfl H) ?_
            intro v56_20 H
            refine OJ.rd rfl rfl rfl (r_fieldAddr rfl rfl H) ?_
            intro v57_21 H
            refine OJ.rd rfl rfl rfl (r_fieldAddr rfl rfl H) ?_
            intro v58_22 H
            refine OJ.wr rfl rfl (r_store rfl rfl rfl H) ?_
            intro h23 H
            refine OJ.fin ?_
            refine CJ.ret1 ?_
            exact ret_many (vs := []) [] (Or.inr rfl) rfl True.intro H
          · cases H
        · intro _u h nx H
          cases H

/-! 118 -/
noncomputable def H118_j1 (k : KV)   (h : Heap) (nx : Nat) : Bool :=
  k (.int .i64 (.negSucc 0)) h nx
noncomputable def H118_j7 (k : KV) (ih4 : Value → Value → Heap → Nat → Bool)  (h : Heap) (nx : Nat) : Bool :=
  false
noncomputable def H118_l4 (k : KV)  (n : Nat) : Value → Value → Heap → Nat → Bool :=
  Nat.rec (motive := fun _ => Value → Value → Heap → Nat → Bool) (fun _ _ _ _ => false) (fun _ ih4 a7_5 a8_5 h nx => binK Tryz.prog .lss 3 (.tmp 8) (.tmp 7) a8_5 a7_5 fun v9_6 =>
  hIf v9_6 (fun _ => false) (fun _ => H118_j1 k   h nx)) n
noncomputable def H118 (a0 : Value) (a1 : Value) (h : Heap) (nx : Nat) (k : KV) : Bool :=
  lenK Tryz.prog 30 a0 h fun v7_3 =>
  H118_l4 k  200000 v7_3 (.int .i64 (.ofNat 0)) h nx
theorem sim118 {a0 a1 : Value} {h : Heap} {nx : Nat} {k : KV} (H : H118 a0 a1 h nx k = true) : ∃ v h' nx', k v h' nx' = true ∧ CallSim Tryz.prog 118 [a0, a1] h nx v h' nx' := by
  refine fn_rule Tryz.func118 rfl rfl ?_
  refine CJ.seq ?_
  refine CJ.region ?_
  refine OJ.mv rfl rfl rfl (r_assign rfl rfl) ?_
  refine OJ.fin ?_
  refine CJ.seq (CJ.cut (X := Unit) (fun x h nx => H118_j1 k   h nx) (fun x => []) ?_ ?_)
  · refine CJ.seq ?_
    refine CJ.region ?_
    refine OJ.mv rfl rfl rfl (r_move rfl rfl) ?_
    refine OJ.rd rfl rfl rfl (r_len (x := default) rfl rfl (And.intro rfl True.intro) rfl H) ?_
    intro v7_3 H
    refine OJ.mv rfl rfl rfl (r_move rfl rfl) ?_
    refine OJ.fin ?_
    refine CJ.block ?_
    refine CJ.weaken [(7, (some v7_3)), (8, (some (.int .i64 (.ofNat 0))))] (And.intro rfl (And.intro rfl True.intro)) ?_
    refine CJ.loop_ind (X := Value × Value × Unit) (fun n x h nx => H118_l4 k  n x.1 x.2.1 h nx) (fun x => [(7, some x.1), (8, some x.2.1)]) (fun _ _ _ => rfl) ?_ 200000 (v7_3, (.int .i64 (.ofNat 0)), ()) _ _ H
    intro ih4n ih4p ⟨a7_5, a8_5, _u⟩ h nx H
    let ih4 := H118_l4 k  ih4n
    refine CJ.seq ?_
    refine CJ.region ?_
    refine OJ.rd rfl rfl rfl (r_bin rfl rfl rfl H) ?_
    intro v9_6 H
    refine OJ.fin ?_
    refine CJ.seq (CJ.cut (X := Unit) (fun x h nx => H118_j7 k ih4  h nx) (fun x => []) ?_ ?_)
    · refine CJ.ite rfl H (fun H => ?_) (fun H => ?_)
      · cases H
      · exact CJ.exit [] True.intro (Exists.intro () (And.intro rfl H))
    · intro _u h nx H
      cases H
  · intro _u h nx H
    refine CJ.seq ?_
    refine CJ.region ?_
    refine OJ.mv rfl rfl rfl (r_assign rfl rfl) ?_
    refine OJ.fin ?_
    refine CJ.ret1 ?_
    exact ret_one (Or.inr rfl) rfl rfl H

/-! 157 -/
noncomputable def H157 (a0 : Value) (a1 : Value) (h : Heap) (nx : Nat) (k : KV) : Bool :=
  H118 a0 a1 h nx fun v7_1 h1 nx1 =>
  binK Tryz.prog .geq 3 (.tmp 7) (.const (.int .i64 (.ofNat 0))) v7_1 (.int .i64 (.ofNat 0)) fun v8_2 =>
  k v8_2 h1 nx1
theorem sim157 {a0 a1 : Value} {h : Heap} {nx : Nat} {k : KV} (H : H157 a0 a1 h nx k = true) : ∃ v h' nx', k v h' nx' = true ∧ CallSim Tryz.prog 157 [a0, a1] h nx v h' nx' := by
  refine fn_rule Tryz.func157 rfl rfl ?_
  refine CJ.seq ?_
  refine CJ.region ?_
  refine OJ.mv rfl rfl rfl (r_assign rfl rfl) ?_
  refine OJ.fin ?_
  refine CJ.seq ?_
  refine CJ.region ?_
  refine OJ.mv rfl rfl rfl (r_move rfl rfl) ?_
  refine OJ.mv rfl rfl rfl (r_move rfl rfl) ?_
  refine OJ.fu rfl rfl rfl (r_call (args := [a0, a1]) rfl rfl rfl (And.intro rfl (And.intro rfl True.intro)) Tryz.call118 (sim118 H)) ?_
  intro v7_1 h1 nx1 H
  refine OJ.rd rfl rfl rfl (r_bin rfl rfl rfl H) ?_
  intro v8_2 H
  refine OJ.mv rfl rfl rfl (r_assign rfl rfl) ?_
  refine OJ.fin ?_
  refine CJ.ret1 ?_
  exact ret_one (Or.inr rfl) rfl rfl H

/-! 159 -/
noncomputable def H159_j9 (k : KV)  (a2_10 : Value) (a3_10 : Value) (h : Heap) (nx : Nat) : Bool :=
  loadK Tryz.prog 34 a3_10 h fun v35_11 =>
  storeK Tryz.prog 34 a2_10 v35_11 h fun h12 =>
  loadK Tryz.prog 34 a2_10 h12 fun r13 => k (resV [r13]) h12 nx
noncomputable def H159_j20 (k : KV) (ih17 : Value → Value → Value → Value → Heap → Nat → Bool)  (h : Heap) (nx : Nat) : Bool :=
  false
noncomputable def H159_l17 (k : KV)  (n : Nat) : Value → Value → Value → Value → Heap → Nat → Bool :=
  Nat.rec (motive := fun _ => Value → Value → Value → Value → Heap → Nat → Bool) (fun _ _ _ _ _ _ => false) (fun _ ih17 a2_18 a3_18 a12_18 a13_18 h nx => binK Tryz.prog .lss 3 (.tmp 13) (.tmp 12) a13_18 a12_18 fun v14_19 =>
  hIf v14_19 (fun _ => false) (fun _ => H159_j9 k  a2_18 a3_18 h nx)) n
noncomputable def H159 (a0 : Value) (h : Heap) (nx : Nat) (k : KV) : Bool :=
  hBox a0 h nx fun v1_1 h1 nx1 =>
  hAlloc Tryz.prog 34 h1 nx1 fun v2_2 h2 nx2 =>
  hFieldAddr Tryz.prog 36 v1_1 0 fun v6_3 =>
  loadK Tryz.prog 3 v6_3 h2 fun v7_4 =>
  hBuildSlice Tryz.prog 31 1 [(0, v7_4)] h2 nx2 fun v8_5 h5 nx5 =>
  hBuild Tryz.prog 34 [(0, v8_5)] fun v9_6 =>
  hAlloc Tryz.prog 34 h5 nx5 fun v3_7 h7 nx7 =>
  storeK Tryz.prog 34 v3_7 v9_6 h7 fun h8 =>
  hFieldAddr Tryz.prog 36 v1_1 4 fun v10_14 =>
  loadK Tryz.prog 30 v10_14 h8 fun v11_15 =>
  lenK Tryz.prog 30 v11_15 h8 fun v12_16 =>
  H159_l17 k  200000 v2_2 v3_7 v12_16 (.int .i64 (.ofNat 0)) h8 nx7
theorem sim159 {a0 : Value} {h : Heap} {nx : Nat} {k : KV} (H : H159 a0 h nx k = true) : ∃ v h' nx', k v h' nx' = true ∧ CallSim Tryz.prog 159 [a0] h nx v h' nx' := by
  refine fn_rule Tryz.func159 rfl rfl ?_
  refine CJ.seq ?_
  refine CJ.region ?_
  refine OJ.fu rfl rfl rfl (r_box rfl rfl H) ?_
  intro v1_1 h1 nx1 H
  refine OJ.fu rfl rfl rfl (r_alloc1 rfl H) ?_
  intro v2_2 h2 nx2 H
  refine OJ.fin ?_
  refine CJ.seq ?_
  refine CJ.region ?_
  refine OJ.rd rfl rfl rfl (r_fieldAddr rfl rfl H) ?_
  intro v6_3 H
  refine OJ.rd rfl rfl rfl (r_load rfl rfl H) ?_
  intro v7_4 H
  refine OJ.fu rfl rfl rfl (r_buildSlice (vs := [(0, v7_4)]) rfl (And.intro rfl (And.intro rfl True.intro)) H) ?_
  intro v8_5 h5 nx5 H
  refine OJ.rd rfl rfl rfl (r_build (vs := [(0, v8_5)]) rfl (And.intro rfl (And.intro rfl True.intro)) H) ?_
  intro v9_6 H
  refine OJ.fu rfl rfl rfl (r_alloc1 rfl H) ?_
  intro v3_7 h7 nx7 H
  refine OJ.wr rfl rfl (r_store rfl rfl rfl H) ?_
  intro h8 H
  refine OJ.fin ?_
  refine CJ.seq (CJ.cut (X := Value × Value × Unit) (fun x h nx => H159_j9 k  x.1 x.2.1 h nx) (fun x => [(2, some x.1), (3, some x.2.1)]) ?_ ?_)
  · refine CJ.seq ?_
    refine CJ.region ?_
    refine OJ.rd rfl rfl rfl (r_fieldAddr rfl rfl H) ?_
    intro v10_14 H
    refine OJ.rd rfl rfl rfl (r_load rfl rfl H) ?_
    intro v11_15 H
    refine OJ.rd rfl rfl rfl (r_len (x := default) rfl rfl (And.intro rfl True.intro) rfl H) ?_
    intro v12_16 H
    refine OJ.mv rfl rfl rfl (r_move rfl rfl) ?_
    refine OJ.fin ?_
    refine CJ.block ?_
    refine CJ.weaken [(2, (some v2_2)), (3, (some v3_7)), (12, (some v12_16)), (13, (some (.int .i64 (.ofNat 0))))] (And.intro rfl (And.intro rfl (And.intro rfl (And.intro rfl True.intro)))) ?_
    refine CJ.loop_ind (X := Value × Value × Value × Value × Unit) (fun n x h nx => H159_l17 k  n x.1 x.2.1 x.2.2.1 x.2.2.2.1 h nx) (fun x => [(2, some x.1), (3, some x.2.1), (12, some x.2.2.1), (13, some x.2.2.2.1)]) (fun _ _ _ => rfl) ?_ 200000 (v2_2, v3_7, v12_16, (.int .i64 (.ofNat 0)), ()) _ _ H
    intro ih17n ih17p ⟨a2_18, a3_18, a12_18, a13_18, _u⟩ h nx H
    let ih17 := H159_l17 k  ih17n
    refine CJ.seq ?_
    refine CJ.region ?_
    refine OJ.rd rfl rfl rfl (r_bin rfl rfl rfl H) ?_
    intro v14_19 H
    refine OJ.fin ?_
    refine CJ.seq (CJ.cut (X := Unit) (fun x h nx => H159_j20 k ih17  h nx) (fun x => []) ?_ ?_)
    · refine CJ.ite rfl H (fun H => ?_) (fun H => ?_)
      · cases H
      · exact CJ.exit [(2, (some a2_18)), (3, (some a3_18))] (And.intro rfl (And.intro rfl True.intro)) (Exists.intro (a2_18, a3_18, ()) (And.intro rfl H))
    · intro _u h nx H
      cases H
  · intro ⟨a2_10, a3_10, _u⟩ h nx H
    refine CJ.seq ?_
    refine CJ.region ?_
    refine OJ.rd rfl rfl rfl (r_load rfl rfl H) ?_
    intro v35_11 H
    refine OJ.wr rfl rfl (r_store rfl rfl rfl H) ?_
    intro h12 H
    refine OJ.fin ?_
    refine CJ.ret1 ?_
    obtain ⟨r13, H, l13⟩ := load_val H
    exact ret_gen (vs := [r13]) (Or.inr rfl) (And.intro (Exists.intro a2_10 (And.intro rfl l13)) True.intro) H

/-! 174 -/
noncomputable def H174_j4 (k : KV)  (a5_5 : Value) (h : Heap) (nx : Nat) : Bool :=
  hRet [a5_5, (.int .i64 (.ofNat 0))] h nx k
noncomputable def H174_j12 (k : KV) (ih9 : Value → Value → Value → Heap → Nat → Bool)  (h : Heap) (nx : Nat) : Bool :=
  false
noncomputable def H174_l9 (k : KV)  (n : Nat) : Value → Value → Value → Heap → Nat → Bool :=
  Nat.rec (motive := fun _ => Value → Value → Value → Heap → Nat → Bool) (fun _ _ _ _ _ => false) (fun _ ih9 a5_10 a17_10 a18_10 h nx => binK Tryz.prog .lss 3 (.tmp 18) (.tmp 17) a18_10 a17_10 fun v19_11 =>
  hIf v19_11 (fun _ => false) (fun _ => H174_j4 k  a5_10 h nx)) n
noncomputable def H174_j2 (k : KV)  (a1_3 : Value) (h : Heap) (nx : Nat) : Bool :=
  hFieldAddr Tryz.prog 34 a1_3 1 fun v15_6 =>
  loadK Tryz.prog 32 v15_6 h fun v16_7 =>
  lenK Tryz.prog 32 v16_7 h fun v17_8 =>
  H174_l9 k  200000 (.slice none 0 0) v17_8 (.int .i64 (.ofNat 0)) h nx
noncomputable def H174 (a0 : Value) (h : Heap) (nx : Nat) (k : KV) : Bool :=
  hBox a0 h nx fun v1_1 h1 nx1 =>
  loadK Tryz.prog 34 v1_1 h1 fun v10_14 =>
  H145 v10_14 h1 nx1 fun v11_15 h15 nx15 =>
  binK Tryz.prog .neq 44 (.tmp 12) (.const (.int .i64 (.ofNat 0))) v11_15 (.int .i64 (.ofNat 0)) fun v13_16 =>
  hIf v13_16 (fun _ => false) (fun _ => H174_j2 k  v1_1 h15 nx15)
theorem sim174 {a0 : Value} {h : Heap} {nx : Nat} {k : KV} (H : H174 a0 h nx k = true) : ∃ v h' nx', k v h' nx' = true ∧ CallSim Tryz.prog 174 [a0] h nx v h' nx' := by
  refine fn_rule Tryz.func174 rfl rfl ?_
  refine CJ.seq ?_
  refine CJ.region ?_
  refine OJ.fu rfl rfl rfl (r_box rfl rfl H) ?_
  intro v1_1 h1 nx1 H
  refine OJ.mv rfl rfl rfl (r_assign rfl rfl) ?_
  refine OJ.mv rfl rfl rfl (r_assign rfl rfl) ?_
  refine OJ.fin ?_
  refine CJ.seq (CJ.cut (X := Value × Unit) (fun x h nx => H174_j2 k  x.1 h nx) (fun x => [(1, some x.1)]) ?_ ?_)
  · refine CJ.seq ?_
    refine CJ.region ?_
    refine OJ.rd rfl rfl rfl (r_load rfl rfl H) ?_
    intro v10_14 H
    refine OJ.fu rfl rfl rfl (r_call (args := [v10_14]) rfl rfl rfl (And.intro rfl True.intro) Tryz.call145 (sim145 H)) ?_
    intro v11_15 h15 nx15 H
    refine OJ.mv rfl rfl rfl (r_assign rfl rfl) ?_
    refine OJ.fin ?_
    refine CJ.seq ?_
    refine CJ.region ?_
    refine OJ.mv rfl rfl rfl (r_move rfl rfl) ?_
    refine OJ.rd rfl rfl rfl (r_bin rfl rfl rfl H) ?_
    intro v13_16 H
    refine OJ.fin ?_
    refine CJ.ite rfl H (fun H => ?_) (fun H => ?_)
    · cases H
    · exact CJ.skip [(1, (some v1_1))] (And.intro rfl True.intro) (Exists.intro (v1_1, ()) (And.intro rfl H))
  · intro ⟨a1_3, _u⟩ h nx H
    refine CJ.seq ?_
    refine CJ.region ?_
    refine OJ.mv rfl rfl rfl (r_assign rfl rfl) ?_
    refine OJ.fin ?_
    refine CJ.seq (CJ.cut (X := Value × Unit) (fun x h nx => H174_j4 k  x.1 h nx) (fun x => [(5, some x.1)]) ?_ ?_)
    · refine CJ.seq ?_
      refine CJ.region ?_
      refine OJ.rd rfl rfl rfl (r_fieldAddr rfl rfl H) ?_
      intro v15_6 H
      refine OJ.rd rfl rfl rfl (r_load rfl rfl H) ?_
      intro v16_7 H
      refine OJ.rd rfl rfl rfl (r_len (x := default) rfl rfl (And.intro rfl True.intro) rfl H) ?_
      intro v17_8 H
      refine OJ.mv rfl rfl rfl (r_move rfl rfl) ?_
      refine OJ.fin ?_
      refine CJ.block ?_
      refine CJ.weaken [(5, (some (.slice none 0 0))), (17, (some v17_8)), (18, (some (.int .i64 (.ofNat 0))))] (And.intro rfl (And.intro rfl (And.intro rfl True.intro))) ?_
      refine CJ.loop_ind (X := Value × Value × Value × Unit) (fun n x h nx => H174_l9 k  n x.1 x.2.1 x.2.2.1 h nx) (fun x => [(5, some x.1), (17, some x.2.1), (18, some x.2.2.1)]) (fun _ _ _ => rfl) ?_ 200000 ((.slice none 0 0), v17_8, (.int .i64 (.ofNat 0)), ()) _ _ H
      intro ih9n ih9p ⟨a5_10, a17_10, a18_10, _u⟩ h nx H
      let ih9 := H174_l9 k  ih9n
      refine CJ.seq ?_
      refine CJ.region ?_
      refine OJ.rd rfl rfl rfl (r_bin rfl rfl rfl H) ?_
      intro v19_11 H
      refine OJ.fin ?_
      refine CJ.seq (CJ.cut (X := Unit) (fun x h nx => H174_j12 k ih9  h nx) (fun x => []) ?_ ?_)
      · refine CJ.ite rfl H (fun H => ?_) (fun H => ?_)
        · cases H
        · exact CJ.exit [(5, (some a5_10))] (And.intro rfl True.intro) (Exists.intro (a5_10, ()) (And.intro rfl H))
      · intro _u h nx H
        cases H
    · intro ⟨a5_5, _u⟩ h nx H
      refine CJ.seq ?_
      refine CJ.region ?_
      refine OJ.mv rfl rfl rfl (r_move rfl rfl) ?_
      refine OJ.mv rfl rfl rfl (r_assign rfl rfl) ?_
      refine OJ.mv rfl rfl rfl (r_assign rfl rfl) ?_
      refine OJ.fin ?_
      refine CJ.ret1 ?_
      exact ret_many (vs := [a5_5, (.int .i64 (.ofNat 0))]) [2, 3] (Or.inr rfl) rfl (And.intro rfl (And.intro rfl True.intro)) H

/-! 175 -/
noncomputable def H175_j6 (k : KV)  (a5_7 : Value) (a6_7 : Value) (h : Heap) (nx : Nat) : Bool :=
  hRet [a6_7, a5_7] h nx k
noncomputable def H175_j12 (k : KV) (ih9 : Value → Value → Value → Value → Heap → Nat → Bool)  (h : Heap) (nx : Nat) : Bool :=
  false
noncomputable def H175_l9 (k : KV)  (n : Nat) : Value → Value → Value → Value → Heap → Nat → Bool :=
  Nat.rec (motive := fun _ => Value → Value → Value → Value → Heap → Nat → Bool) (fun _ _ _ _ _ _ => false) (fun _ ih9 a5_10 a6_10 a15_10 a16_10 h nx => binK Tryz.prog .lss 3 (.tmp 16) (.tmp 15) a16_10 a15_10 fun v17_11 =>
  hIf v17_11 (fun _ => false) (fun _ => H175_j6 k  a5_10 a6_10 h nx)) n
noncomputable def H175 (a0 : Value) (h : Heap) (nx : Nat) (k : KV) : Bool :=
  hBox a0 h nx fun v1_1 h1 nx1 =>
  loadK Tryz.prog 34 v1_1 h1 fun v10_2 =>
  H174 v10_2 h1 nx1 fun v11_3 h3 nx3 =>
  hExtract v11_3 0 fun v12_4 =>
  hExtract v11_3 1 fun v13_5 =>
  lenK Tryz.prog 32 v12_4 h3 fun v15_8 =>
  H175_l9 k  200000 v13_5 (.slice none 0 0) v15_8 (.int .i64 (.ofNat 0)) h3 nx3
theorem sim175 {a0 : Value} {h : Heap} {nx : Nat} {k : KV} (H : H175 a0 h nx k = true) : ∃ v h' nx', k v h' nx' = true ∧ CallSim Tryz.prog 175 [a0] h nx v h' nx' := by
  refine fn_rule Tryz.func175 rfl rfl ?_
  refine CJ.seq ?_
  refine CJ.region ?_
  refine OJ.fu rfl rfl rfl (r_box rfl rfl H) ?_
  intro v1_1 h1 nx1 H
  refine OJ.mv rfl rfl rfl (r_assign rfl rfl) ?_
  refine OJ.mv rfl rfl rfl (r_assign rfl rfl) ?_
  refine OJ.fin ?_
  refine CJ.seq ?_
  refine CJ.region ?_
  refine OJ.rd rfl rfl rfl (r_load rfl rfl H) ?_
  intro v10_2 H
  refine OJ.fu rfl rfl rfl (r_call (args := [v10_2]) rfl rfl rfl (And.intro rfl True.intro) Tryz.call174 (sim174 H)) ?_
  intro v11_3 h3 nx3 H
  refine OJ.mv rfl rfl rfl (r_move rfl rfl) ?_
  refine OJ.rd rfl rfl rfl (r_extract rfl rfl H) ?_
  intro v12_4 H
  refine OJ.rd rfl rfl rfl (r_extract rfl rfl H) ?_
  intro v13_5 H
  refine OJ.mv rfl rfl rfl (r_assign rfl rfl) ?_
  refine OJ.mv rfl rfl rfl (r_assign rfl rfl) ?_
  refine OJ.fin ?_
  refine CJ.seq ?_
  refine CJ.region ?_
  refine OJ.mv rfl rfl rfl (r_assign rfl rfl) ?_
  refine OJ.fin ?_
  refine CJ.seq (CJ.cut (X := Value × Value × Unit) (fun x h nx => H175_j6 k  x.1 x.2.1 h nx) (fun x => [(5, some x.1), (6, some x.2.1)]) ?_ ?_)
  · refine CJ.seq ?_
    refine CJ.region ?_
    refine OJ.mv rfl rfl rfl (r_move rfl rfl) ?_
    refine OJ.rd rfl rfl rfl (r_len (x := default) rfl rfl (And.intro rfl True.intro) rfl H) ?_
    intro v15_8 H
    refine OJ.mv rfl rfl rfl (r_move rfl rfl) ?_
    refine OJ.fin ?_
    refine CJ.block ?_
    refine CJ.weaken [(5, (some v13_5)), (6, (some (.slice none 0 0))), (15, (some v15_8)), (16, (some (.int .i64 (.ofNat 0))))] (And.intro rfl (And.intro rfl (And.intro rfl (And.intro rfl True.intro)))) ?_
    refine CJ.loop_ind (X := Value × Value × Value × Value × Unit) (fun n x h nx => H175_l9 k  n x.1 x.2.1 x.2.2.1 x.2.2.2.1 h nx) (fun x => [(5, some x.1), (6, some x.2.1), (15, some x.2.2.1), (16, some x.2.2.2.1)]) (fun _ _ _ => rfl) ?_ 200000 (v13_5, (.slice none 0 0), v15_8, (.int .i64 (.ofNat 0)), ()) _ _ H
    intro ih9n ih9p ⟨a5_10, a6_10, a15_10, a16_10, _u⟩ h nx H
    let ih9 := H175_l9 k  ih9n
    refine CJ.seq ?_
    refine CJ.region ?_
    refine OJ.rd rfl rfl rfl (r_bin rfl rfl rfl H) ?_
    intro v17_11 H
    refine OJ.fin ?_
    refine CJ.seq (CJ.cut (X := Unit) (fun x h nx => H175_j12 k ih9  h nx) (fun x => []) ?_ ?_)
    · refine CJ.ite rfl H (fun H => ?_) (fun H => ?_)
      · cases H
      · exact CJ.exit [(5, (some a5_10)), (6, (some a6_10))] (And.intro rfl (And.intro rfl True.intro)) (Exists.intro (a5_10, a6_10, ()) (And.intro rfl H))
    · intro _u h nx H
      cases H
  · intro ⟨a5_7, a6_7, _u⟩ h nx H
    refine CJ.seq ?_
    refine CJ.region ?_
    refine OJ.mv rfl rfl rfl (r_move rfl rfl) ?_
    refine OJ.mv rfl rfl rfl (r_move rfl rfl) ?_
    refine OJ.mv rfl rfl rfl (r_assign rfl rfl) ?_
    refine OJ.mv rfl rfl rfl (r_assign rfl rfl) ?_
    refine OJ.fin ?_
    refine CJ.ret1 ?_
    exact ret_many (vs := [a6_7, a5_7]) [2, 3] (Or.inr rfl) rfl (And.intro rfl (And.intro rfl True.intro)) H

/-! 226 -/
noncomputable def H226_j5 (k : KV)  (a4_6 : Value) (h : Heap) (nx : Nat) : Bool :=
  hRet [a4_6, (.int .i64 (.ofNat 0))] h nx k
noncomputable def H226_j13 (k : KV) (ih8 : Value → Value → Value → Heap → Nat → Bool) (a4_14 : Value) (a16_14 : Value) (a17_14 : Value) (h : Heap) (nx : Nat) : Bool :=
  binK Tryz.prog .add 3 (.tmp 17) (.const (.int .i64 (.ofNat 1))) a17_14 (.int .i64 (.ofNat 1)) fun v49_15 =>
  ih8 a4_14 a16_14 v49_15 h nx
noncomputable def H226_j11 (k : KV) (ih8 : Value → Value → Value → Heap → Nat → Bool) (a4_12 : Value) (a16_12 : Value) (a17_12 : Value) (h : Heap) (nx : Nat) : Bool :=
  hNil a4_12 fun v24_17 =>
  hFieldAddr Tryz.prog 321 v24_17 0 fun v25_18 =>
  loadK Tryz.prog 31 v25_18 h fun v26_19 =>
  hNil a4_12 fun v31_20 =>
  hFieldAddr Tryz.prog 321 v31_20 1 fun v32_21 =>
  loadK Tryz.prog 31 v32_21 h fun v33_22 =>
  hBuildSlice Tryz.prog 31 1 [(0, (.int .i64 (.ofNat 1)))] h nx fun v34_23 h23 nx23 =>
  hNil a4_12 fun v37_24 =>
  hFieldAddr Tryz.prog 321 v37_24 2 fun v38_25 =>
  loadK Tryz.prog 31 v38_25 h23 fun v39_26 =>
  hBuildSlice Tryz.prog 31 1 [(0, a17_12)] h23 nx23 fun v41_27 h27 nx27 =>
  loadK Tryz.prog 31 v25_18 h27 fun v26_29 =>
  hEq v26_29 v26_19 fun _ => loadK Tryz.prog 31 v32_21 h27 fun v33_31 =>
  hEq v33_31 v33_22 fun _ => loadK Tryz.prog 31 v38_25 h27 fun v39_33 =>
  hEq v39_33 v39_26 fun _ => hSame h23 h27 nx fun _ => hBuildSlice Tryz.prog 31 1 [(0, a17_12)] h27 nx27 fun v28_35 h35 nx35 =>
  loadK Tryz.prog 31 v25_18 h35 fun v26_37 =>
  hEq v26_37 v26_19 fun _ => loadK Tryz.prog 31 v32_21 h35 fun v33_39 =>
  hEq v33_39 v33_22 fun _ => loadK Tryz.prog 31 v38_25 h35 fun v39_41 =>
  hEq v39_41 v39_26 fun _ => hSame h23 h35 nx fun _ => hSame h27 h35 nx23 fun _ => hAppend Tryz.prog 31 31 v26_19 v28_35 h35 nx35 fun v29_44 h44 nx44 =>
  loadK Tryz.prog 31 v32_21 h44 fun v33_46 =>
  hEq v33_46 v33_22 fun _ => loadK Tryz.prog 31 v38_25 h44 fun v39_48 =>
  hEq v39_48 v39_26 fun _ => hSame h23 h44 nx fun _ => hSame h27 h44 nx23 fun _ => hAppend Tryz.prog 31 31 v33_22 v34_23 h44 nx44 fun v35_51 h51 nx51 =>
  loadK Tryz.prog 31 v38_25 h51 fun v39_53 =>
  hEq v39_53 v39_26 fun _ => hSame h27 h51 nx23 fun _ => hAppend Tryz.prog 31 31 v39_26 v41_27 h51 nx51 fun v42_55 h55 nx55 =>
  hNil a4_12 fun v43_56 =>
  hFieldAddr Tryz.prog 321 v43_56 0 fun v44_57 =>
  storeK Tryz.prog 31 v44_57 v29_44 h55 fun h58 =>
  hNil a4_12 fun v45_59 =>
  hFieldAddr Tryz.prog 321 v45_59 1 fun v46_60 =>
  storeK Tryz.prog 31 v46_60 v35_51 h58 fun h61 =>
  hNil a4_12 fun v47_62 =>
  hFieldAddr Tryz.prog 321 v47_62 2 fun v48_63 =>
  storeK Tryz.prog 31 v48_63 v42_55 h61 fun h64 =>
  H226_j13 k ih8 a4_12 a16_12 a17_12 h64 nx55
noncomputable def H226_l8 (k : KV)  (n : Nat) : Value → Value → Value → Heap → Nat → Bool :=
  Nat.rec (motive := fun _ => Value → Value → Value → Heap → Nat → Bool) (fun _ _ _ _ _ => false) (fun _ ih8 a4_9 a16_9 a17_9 h nx => binK Tryz.prog .lss 3 (.tmp 17) (.tmp 16) a17_9 a16_9 fun v18_10 =>
  hIf v18_10 (fun _ => H226_j11 k ih8 a4_9 a16_9 a17_9 h nx) (fun _ => H226_j5 k  a4_9 h nx)) n
noncomputable def H226_j1 (k : KV)  (a0_2 : Value) (h : Heap) (nx : Nat) : Bool :=
  hBuild Tryz.prog 321 [(3, a0_2)] fun v13_3 =>
  hBox v13_3 h nx fun v14_4 h4 nx4 =>
  binK Tryz.prog .add 3 (.tmp 15) (.const (.int .i64 (.ofNat 1))) a0_2 (.int .i64 (.ofNat 1)) fun v16_7 =>
  H226_l8 k  200000 v14_4 v16_7 (.int .i64 (.ofNat 0)) h4 nx4
noncomputable def H226_g66 (k : KV)  (a0 : Value) (v7_65 : Value) (o9_67 : Option Value) (o10_67 : Option Value) (h : Heap) (nx : Nat) : Bool :=
  hPick v7_65 (some (.bool true)) o10_67 fun v11_68 =>
  hIf v11_68 (fun _ => false) (fun _ => H226_j1 k  a0 h nx)
noncomputable def H226 (a0 : Value) (h : Heap) (nx : Nat) (k : KV) : Bool :=
  binK Tryz.prog .lss 3 (.tmp 6) (.const (.int .i64 (.ofNat 0))) a0 (.int .i64 (.ofNat 0)) fun v7_65 =>
  hG (some v7_65) false (fun _ => binK Tryz.prog .gtr 3 (.tmp 9) (.const (.int .i64 (.ofNat 4096))) a0 (.int .i64 (.ofNat 4096)) fun v10_69 =>
  H226_g66 k  a0 v7_65 (some a0) (some v10_69) h nx) (fun _ => H226_g66 k  a0 v7_65 none none h nx)
theorem sim226 {a0 : Value} {h : Heap} {nx : Nat} {k : KV} (H : H226 a0 h nx k = true) : ∃ v h' nx', k v h' nx' = true ∧ CallSim Tryz.prog 226 [a0] h nx v h' nx' := by
  refine fn_rule Tryz.func226 rfl rfl ?_
  refine CJ.seq ?_
  refine CJ.region ?_
  refine OJ.mv rfl rfl rfl (r_assign rfl rfl) ?_
  refine OJ.mv rfl rfl rfl (r_assign rfl rfl) ?_
  refine OJ.fin ?_
  refine CJ.seq (CJ.cut (X := Value × Unit) (fun x h nx => H226_j1 k  x.1 h nx) (fun x => [(0, some x.1)]) ?_ ?_)
  · refine CJ.seq ?_
    refine CJ.region ?_
    refine OJ.mv rfl rfl rfl (r_move rfl rfl) ?_
    refine OJ.rd rfl rfl rfl (r_bin rfl rfl rfl H) ?_
    intro v7_65 H
    refine OJ.mv rfl rfl rfl (r_move rfl rfl) ?_
    refine OJ.cut (X := Option Value × Option Value × Unit) 2 (fun x h nx => H226_g66 k  a0 v7_65 x.1 x.2.1 h nx) (fun x => [(9, x.1), (10, x.2.1), (0, (some a0)), (8, (some v7_65))]) ?_ (fun next => ?_)
    · intro ⟨o9_67, o10_67, _u⟩ h nx H
      refine OJ.rd rfl rfl rfl (r_pick rfl rfl rfl rfl H) ?_
      intro v11_68 H
      refine OJ.fin ?_
      refine CJ.ite rfl H (fun H => ?_) (fun H => ?_)
      · cases H
      · exact CJ.skip [(0, (some a0))] (And.intro rfl True.intro) (Exists.intro (a0, ()) (And.intro rfl H))
    · rcases hG_true H with ⟨g, H⟩ | ⟨g, H⟩
      · refine OJ.gmv rfl rfl rfl g rfl rfl (r_move rfl rfl) ?_
        refine OJ.grd rfl rfl rfl g rfl rfl (r_bin rfl rfl rfl H) ?_
        intro v10_69 H
        exact OJ.weaken [(9, (some a0)), (10, (some v10_69)), (0, (some a0)), (8, (some v7_65))] (And.intro rfl (And.intro rfl (And.intro rfl (And.intro rfl True.intro)))) (next ((some a0), (some v10_69), ()) _ _ H)
      · refine OJ.no rfl rfl rfl g rfl rfl ?_
        refine OJ.no rfl rfl rfl g rfl rfl ?_
        exact OJ.weaken [(9, none), (10, none), (0, (some a0)), (8, (some v7_65))] (And.intro rfl (And.intro rfl (And.intro rfl (And.intro rfl True.intro)))) (next (none, none, ()) _ _ H)
  · intro ⟨a0_2, _u⟩ h nx H
    refine CJ.seq ?_
    refine CJ.region ?_
    refine OJ.mv rfl rfl rfl (r_move rfl rfl) ?_
    refine OJ.rd rfl rfl rfl (r_build (vs := [(3, a0_2)]) rfl (And.intro rfl (And.intro rfl True.intro)) H) ?_
    intro v13_3 H
    refine OJ.fu rfl rfl rfl (r_box rfl rfl H) ?_
    intro v14_4 h4 nx4 H
    refine OJ.mv rfl rfl rfl (r_assign rfl rfl) ?_
    refine OJ.fin ?_
    refine CJ.seq (CJ.cut (X := Value × Unit) (fun x h nx => H226_j5 k  x.1 h nx) (fun x => [(4, some x.1)]) ?_ ?_)
    · refine CJ.seq ?_
      refine CJ.region ?_
      refine OJ.mv rfl rfl rfl (r_move rfl rfl) ?_
      refine OJ.rd rfl rfl rfl (r_bin rfl rfl rfl H) ?_
      intro v16_7 H
      refine OJ.mv rfl rfl rfl (r_move rfl rfl) ?_
      refine OJ.fin ?_
      refine CJ.block ?_
      refine CJ.weaken [(4, (some v14_4)), (16, (some v16_7)), (17, (some (.int .i64 (.ofNat 0))))] (And.intro rfl (And.intro rfl (And.intro rfl True.intro))) ?_
      refine CJ.loop_ind (X := Value × Value × Value × Unit) (fun n x h nx => H226_l8 k  n x.1 x.2.1 x.2.2.1 h nx) (fun x => [(4, some x.1), (16, some x.2.1), (17, some x.2.2.1)]) (fun _ _ _ => rfl) ?_ 200000 (v14_4, v16_7, (.int .i64 (.ofNat 0)), ()) _ _ H
      intro ih8n ih8p ⟨a4_9, a16_9, a17_9, _u⟩ h nx H
      let ih8 := H226_l8 k  ih8n
      refine CJ.seq ?_
      refine CJ.region ?_
      refine OJ.rd rfl rfl rfl (r_bin rfl rfl rfl H) ?_
      intro v18_10 H
      refine OJ.fin ?_
      refine CJ.seq (CJ.cut (X := Value × Value × Value × Unit) (fun x h nx => H226_j11 k ih8 x.1 x.2.1 x.2.2.1 h nx) (fun x => [(4, some x.1), (16, some x.2.1), (17, some x.2.2.1)]) ?_ ?_)
      · refine CJ.ite rfl H (fun H => ?_) (fun H => ?_)
        · exact CJ.skip [(4, (some a4_9)), (16, (some a16_9)), (17, (some a17_9))] (And.intro rfl (And.intro rfl (And.intro rfl True.intro))) (Exists.intro (a4_9, a16_9, a17_9, ()) (And.intro rfl H))
        · exact CJ.exit [(4, (some a4_9))] (And.intro rfl True.intro) (Exists.intro (a4_9, ()) (And.intro rfl H))
      · intro ⟨a4_12, a16_12, a17_12, _u⟩ h nx H
        refine CJ.seq (CJ.cut (X := Value × Value × Value × Unit) (fun x h nx => H226_j13 k ih8 x.1 x.2.1 x.2.2.1 h nx) (fun x => [(4, some x.1), (16, some x.2.1), (17, some x.2.2.1)]) ?_ ?_)
        · refine CJ.block ?_
          refine CJ.seq ?_
          refine CJ.region ?_
          refine OJ.mv rfl rfl rfl (r_move rfl rfl) ?_
          refine OJ.mv rfl rfl rfl (r_assign rfl rfl) ?_
          refine OJ.fin ?_
          refine DJ.hm [0, 0, 0, 0, 8, 24, 56, 0, 128, 504, 0, 1024, 3072, 7168, 0, 32760, 0, 65536, 196608, 458752, 0, 1048576, 4194296, 8388601, 16777209, 33554425, 67108859, 134217723, 268435451, 536870911, 1073741823, 2147483647] (by decide +kernel) ?_
          intro hm16
          refine DJ.mv 0 [(4, (some a4_12))] (a_move rfl rfl) ?_
          intro S16_0
          refine DJ.mv 1 [(4, (some a4_12))] (a_move rfl rfl) ?_
          intro S16_1
          refine DJ.mv 2 [(4, (some a4_12))] (a_move rfl rfl) ?_
          intro S16_2
          refine DJ.mv 3 [(4, (some a4_12))] (a_move rfl rfl) ?_
          intro S16_3
          refine DJ.any 4 [(23, (some a4_12))] (a_nil rfl rfl H) ?_
          intro v24_17 H S16_4
          refine DJ.any 5 [(24, (some v24_17))] (a_fieldAddr rfl rfl H) ?_
          intro v25_18 H S16_5
          refine DJ.rd 6 [(25, (some v25_18))] h nx (r_load rfl rfl H) ?_
          intro v26_19 H S16_6
          refine DJ.mv 7 [(5, (some a17_12))] (a_move rfl rfl) ?_
          intro S16_7
          refine DJ.mv 10 [(4, (some a4_12))] (a_move rfl rfl) ?_
          intro S16_10
          refine DJ.any 11 [(30, (some a4_12))] (a_nil rfl rfl H) ?_
          intro v31_20 H S16_11
          refine DJ.any 12 [(31, (some v31_20))] (a_fieldAddr rfl rfl H) ?_
          intro v32_21 H S16_12
          refine DJ.rd 13 [(32, (some v32_21))] h nx (r_load rfl rfl H) ?_
          intro v33_22 H S16_13
          refine DJ.fr 14 [] h nx (f_buildSlice (vs := [(0, (.int .i64 (.ofNat 1)))]) rfl (And.intro rfl (And.intro rfl True.intro)) H) ?_
          intro v34_23 h23 nx23 H E16_14 W16_14 S16_14
          refine DJ.mv 16 [(4, (some a4_12))] (a_move rfl rfl) ?_
          intro S16_16
          refine DJ.any 17 [(36, (some a4_12))] (a_nil rfl rfl H) ?_
          intro v37_24 H S16_17
          refine DJ.any 18 [(37, (some v37_24))] (a_fieldAddr rfl rfl H) ?_
          intro v38_25 H S16_18
          refine DJ.rd 19 [(38, (some v38_25))] h23 nx23 (r_load rfl rfl H) ?_
          intro v39_26 H S16_19
          refine DJ.mv 20 [(5, (some a17_12))] (a_move rfl rfl) ?_
          intro S16_20
          refine DJ.fr 21 [(40, (some a17_12))] h23 nx23 (f_buildSlice (vs := [(0, a17_12)]) rfl (And.intro rfl (And.intro rfl True.intro)) H) ?_
          intro v41_27 h27 nx27 H E16_21 W16_21 S16_21
          refine DJ.rd 6 [(25, (some v25_18))] h27 nx27 (r_load rfl rfl H) ?_
          intro v26_29 H Q28
          obtain ⟨q28, H⟩ := hEq_true H
          refine DJ.rd 13 [(32, (some v32_21))] h27 nx27 (r_load rfl rfl H) ?_
          intro v33_31 H Q30
          obtain ⟨q30, H⟩ := hEq_true H
          refine DJ.rd 19 [(38, (some v38_25))] h27 nx27 (r_load rfl rfl H) ?_
          intro v39_33 H Q32
          obtain ⟨q32, H⟩ := hEq_true H
          obtain ⟨q34, H⟩ := hSame_true H
          refine DJ.fu 8 [(27, (some a17_12))] h27 nx27 (r_buildSlice (vs := [(0, a17_12)]) rfl (And.intro rfl (And.intro rfl True.intro)) H) ?_
          intro v28_35 h35 nx35 H S16_8
          have I16_8 := S16_8.1
          refine DJ.rd 6 [(25, (some v25_18))] h35 nx35 (r_load rfl rfl H) ?_
          intro v26_37 H Q36
          obtain ⟨q36, H⟩ := hEq_true H
          refine DJ.rd 13 [(32, (some v32_21))] h35 nx35 (r_load rfl rfl H) ?_
          intro v33_39 H Q38
          obtain ⟨q38, H⟩ := hEq_true H
          refine DJ.rd 19 [(38, (some v38_25))] h35 nx35 (r_load rfl rfl H) ?_
          intro v39_41 H Q40
          obtain ⟨q40, H⟩ := hEq_true H
          obtain ⟨q42, H⟩ := hSame_true H
          obtain ⟨q43, H⟩ := hSame_true H
          refine DJ.fu 9 [(26, (some v26_19)), (28, (some v28_35))] h35 nx35 (r_append1 rfl rfl (And.intro rfl (And.intro rfl True.intro)) rfl H) ?_
          intro v29_44 h44 nx44 H S16_9
          have I16_9 := S16_9.1
          refine DJ.rd 13 [(32, (some v32_21))] h44 nx44 (r_load rfl rfl H) ?_
          intro v33_46 H Q45
          obtain ⟨q45, H⟩ := hEq_true H
          refine DJ.rd 19 [(38, (some v38_25))] h44 nx44 (r_load rfl rfl H) ?_
          intro v39_48 H Q47
          obtain ⟨q47, H⟩ := hEq_true H
          obtain ⟨q49, H⟩ := hSame_true H
          obtain ⟨q50, H⟩ := hSame_true H
          refine DJ.fu 15 [(33, (some v33_22)), (34, (some v34_23))] h44 nx44 (r_append1 rfl rfl (And.intro rfl (And.intro rfl True.intro)) rfl H) ?_
          intro v35_51 h51 nx51 H S16_15
          have I16_15 := S16_15.1
          refine DJ.rd 19 [(38, (some v38_25))] h51 nx51 (r_load rfl rfl H) ?_
          intro v39_53 H Q52
          obtain ⟨q52, H⟩ := hEq_true H
          obtain ⟨q54, H⟩ := hSame_true H
          refine DJ.fu 22 [(39, (some v39_26)), (41, (some v41_27))] h51 nx51 (r_append1 rfl rfl (And.intro rfl (And.intro rfl True.intro)) rfl H) ?_
          intro v42_55 h55 nx55 H S16_22
          have I16_22 := S16_22.1
          refine DJ.any 23 [(20, (some a4_12))] (a_nil rfl rfl H) ?_
          intro v43_56 H S16_23
          refine DJ.any 24 [(43, (some v43_56))] (a_fieldAddr rfl rfl H) ?_
          intro v44_57 H S16_24
          refine DJ.wr 25 [(29, (some v29_44)), (44, (some v44_57))] h55 nx55 (r_store rfl rfl rfl H) ?_
          intro h58 H S16_25
          have I16_25 := S16_25.1
          refine DJ.any 26 [(21, (some a4_12))] (a_nil rfl rfl H) ?_
          intro v45_59 H S16_26
          refine DJ.any 27 [(45, (some v45_59))] (a_fieldAddr rfl rfl H) ?_
          intro v46_60 H S16_27
          refine DJ.wr 28 [(35, (some v35_51)), (46, (some v46_60))] h58 nx55 (r_store rfl rfl rfl H) ?_
          intro h61 H S16_28
          have I16_28 := S16_28.1
          refine DJ.any 29 [(22, (some a4_12))] (a_nil rfl rfl H) ?_
          intro v47_62 H S16_29
          refine DJ.any 30 [(47, (some v47_62))] (a_fieldAddr rfl rfl H) ?_
          intro v48_63 H S16_30
          refine DJ.wr 31 [(42, (some v42_55)), (48, (some v48_63))] h61 nx55 (r_store rfl rfl rfl H) ?_
          intro h64 H S16_31
          have I16_31 := S16_31.1
          exact CJ.draw1 [(some a4_12), (some a4_12), (some a4_12), (some a4_12), (some v24_17), (some v25_18), (some v26_19), (some a17_12), (some v28_35), (some v29_44), (some a4_12), (some v31_20), (some v32_21), (some v33_22), (some v34_23), (some v35_51), (some a4_12), (some v37_24), (some v38_25), (some v39_26), (some a17_12), (some v41_27), (some v42_55), (some v43_56), (some v44_57), none, (some v45_59), (some v46_60), none, (some v47_62), (some v48_63), none] [8, 9, 15, 22, 25, 28, 31] [(h27, nx27), (h35, nx35), (h44, nx44), (h51, nx51), (h55, nx55), (h58, nx55), (h61, nx55), (h64, nx55)] [(14, nx), (21, nx23)] [0, 1, 2, 3, 4, 5, 6, 7, 8, 9, 10, 11, 12, 13, 14, 15, 16, 17, 18, 19, 20, 21, 22, 23, 24, 25, 26, 27, 28, 29, 30, 31] [0, 1, 2, 3, 4, 5, 6, 7, 8, 9, 10, 11, 12, 13, 14, 15, 16, 17, 18, 19, 20, 21, 22, 23, 24, 25, 26, 27, 28, 29, 30, 31] [0, 3, 4, 5, 6, 7, 8, 9, 10, 11, 12, 13, 14, 15, 16, 17, 18, 19, 20, 21, 22, 23, 24, 25, 1, 26, 27, 28, 2, 29, 30, 31] (by decide +kernel) (And.intro (F_any (Ti := [(4, (some a4_12))]) hm16 [(4, none)] (by decide +kernel) (And.intro rfl (And.intro rfl True.intro)) (guard_no rfl) rfl rfl S16_0) (And.intro (F_any (Ti := [(4, (some a4_12))]) hm16 [(4, none)] (by decide +kernel) (And.intro rfl (And.intro rfl True.intro)) (guard_no rfl) rfl rfl S16_1) (And.intro (F_any (Ti := [(4, (some a4_12))]) hm16 [(4, none)] (by decide +kernel) (And.intro rfl (And.intro rfl True.intro)) (guard_no rfl) rfl rfl S16_2) (And.intro (F_any (Ti := [(4, (some a4_12))]) hm16 [(4, none)] (by decide +kernel) (And.intro rfl (And.intro rfl True.intro)) (guard_no rfl) rfl rfl S16_3) (And.intro (F_any (Ti := [(23, (some a4_12))]) hm16 [(23, some 3)] (by decide +kernel) (And.intro rfl (And.intro rfl True.intro)) (guard_no rfl) rfl rfl S16_4) (And.intro (F_any (Ti := [(24, (some v24_17))]) hm16 [(24, some 4)] (by decide +kernel) (And.intro rfl (And.intro rfl True.intro)) (guard_no rfl) rfl rfl S16_5) (And.intro (F_read (Ti := [(25, (some v25_18))]) hm16 [(25, some 5)] (by decide +kernel) (And.intro rfl (And.intro rfl True.intro)) (guard_no rfl) rfl rfl 0 2 (by decide +kernel) (And.intro (opR_eq q28 Q28) (And.intro (opR_eq q36 Q36) True.intro))) (And.intro (F_any (Ti := [(5, (some a17_12))]) hm16 [(5, none)] (by decide +kernel) (And.intro rfl (And.intro rfl True.intro)) (guard_no rfl) rfl rfl S16_7) (And.intro (F_eff (Ti := [(27, (some a17_12))]) hm16 [(27, some 7)] (by decide +kernel) (And.intro rfl (And.intro rfl True.intro)) (guard_no rfl) rfl 0 rfl (by decide +kernel) S16_8 (Grow.refl _ _) (show nx ≤ nx27 by omega) (And.intro (show nx < nx27 ∨ nx35 ≤ nx by omega) (And.intro (show nx23 < nx27 ∨ nx35 ≤ nx23 by omega) True.intro))) (And.intro (F_eff (Ti := [(26, (some v26_19)), (28, (some v28_35))]) hm16 [(26, some 6), (28, some 8)] (by decide +kernel) (And.intro rfl (And.intro rfl (And.intro rfl (And.intro rfl True.intro)))) (guard_no rfl) rfl 1 rfl (by decide +kernel) S16_9 (Grow.refl _ _) (show nx ≤ nx35 by omega) (And.intro (show nx < nx35 ∨ nx44 ≤ nx by omega) (And.intro (show nx23 < nx35 ∨ nx44 ≤ nx23 by omega) True.intro))) (And.intro (F_any (Ti := [(4, (some a4_12))]) hm16 [(4, none)] (by decide +kernel) (And.intro rfl (And.intro rfl True.intro)) (guard_no rfl) rfl rfl S16_10) (And.intro (F_any (Ti := [(30, (some a4_12))]) hm16 [(30, some 10)] (by decide +kernel) (And.intro rfl (And.intro rfl True.intro)) (guard_no rfl) rfl rfl S16_11) (And.intro (F_any (Ti := [(31, (some v31_20))]) hm16 [(31, some 11)] (by decide +kernel) (And.intro rfl (And.intro rfl True.intro)) (guard_no rfl) rfl rfl S16_12) (And.intro (F_read (Ti := [(32, (some v32_21))]) hm16 [(32, some 12)] (by decide +kernel) (And.intro rfl (And.intro rfl True.intro)) (guard_no rfl) rfl rfl 0 3 (by decide +kernel) (And.intro (opR_eq q30 Q30) (And.intro (opR_eq q38 Q38) (And.intro (opR_eq q45 Q45) True.intro)))) (And.intro (F_fresh (Ti := []) hm16 [] (by decide +kernel) True.intro (guard_no rfl) rfl nx rfl (by omega) (And.intro (fun _ => rfl) (And.intro (fun e_ => by exfalso; omega) True.intro)) 0 3 (by decide +kernel) (And.intro (S16_14 _ _ (show nx < nx27 by omega) q34) (And.intro (S16_14 _ _ (show nx < nx35 by omega) q42) (And.intro (S16_14 _ _ (show nx < nx44 by omega) q49) True.intro)))) (And.intro (F_eff (Ti := [(33, (some v33_22)), (34, (some v34_23))]) hm16 [(33, some 13), (34, some 14)] (by decide +kernel) (And.intro rfl (And.intro rfl (And.intro rfl (And.intro rfl True.intro)))) (guard_no rfl) rfl 2 rfl (by decide +kernel) S16_15 (Grow.refl _ _) (show nx ≤ nx44 by omega) (And.intro (show nx < nx44 ∨ nx51 ≤ nx by omega) (And.intro (show nx23 < nx44 ∨ nx51 ≤ nx23 by omega) True.intro))) (And.intro (F_any (Ti := [(4, (some a4_12))]) hm16 [(4, none)] (by decide +kernel) (And.intro rfl (And.intro rfl True.intro)) (guard_no rfl) rfl rfl S16_16) (And.intro (F_any (Ti := [(36, (some a4_12))]) hm16 [(36, some 16)] (by decide +kernel) (And.intro rfl (And.intro rfl True.intro)) (guard_no rfl) rfl rfl S16_17) (And.intro (F_any (Ti := [(37, (some v37_24))]) hm16 [(37, some 17)] (by decide +kernel) (And.intro rfl (And.intro rfl True.intro)) (guard_no rfl) rfl rfl S16_18) (And.intro (F_read (Ti := [(38, (some v38_25))]) hm16 [(38, some 18)] (by decide +kernel) (And.intro rfl (And.intro rfl True.intro)) (guard_no rfl) rfl rfl 0 4 (by decide +kernel) (And.intro (opR_eq q32 Q32) (And.intro (opR_eq q40 Q40) (And.intro (opR_eq q47 Q47) (And.intro (opR_eq q52 Q52) True.intro))))) (And.intro (F_any (Ti := [(5, (some a17_12))]) hm16 [(5, none)] (by decide +kernel) (And.intro rfl (And.intro rfl True.intro)) (guard_no rfl) rfl rfl S16_20) (And.intro (F_fresh (Ti := [(40, (some a17_12))]) hm16 [(40, some 20)] (by decide +kernel) (And.intro rfl (And.intro rfl True.intro)) (guard_no rfl) rfl nx23 rfl (by omega) (And.intro (fun e_ => by exfalso; omega) (And.intro (fun _ => rfl) True.intro)) 0 4 (by decide +kernel) (And.intro (S16_21 _ _ (show nx23 < nx27 by omega) rfl) (And.intro (S16_21 _ _ (show nx23 < nx35 by omega) q43) (And.intro (S16_21 _ _ (show nx23 < nx44 by omega) q50) (And.intro (S16_21 _ _ (show nx23 < nx51 by omega) q54) True.intro))))) (And.intro (F_eff (Ti := [(39, (some v39_26)), (41, (some v41_27))]) hm16 [(39, some 19), (41, some 21)] (by decide +kernel) (And.intro rfl (And.intro rfl (And.intro rfl (And.intro rfl True.intro)))) (guard_no rfl) rfl 3 rfl (by decide +kernel) S16_22 (Grow.refl _ _) (show nx ≤ nx51 by omega) (And.intro (show nx < nx51 ∨ nx55 ≤ nx by omega) (And.intro (show nx23 < nx51 ∨ nx55 ≤ nx23 by omega) True.intro))) (And.intro (F_any (Ti := [(20, (some a4_12))]) hm16 [(20, some 0)] (by decide +kernel) (And.intro rfl (And.intro rfl True.intro)) (guard_no rfl) rfl rfl S16_23) (And.intro (F_any (Ti := [(43, (some v43_56))]) hm16 [(43, some 23)] (by decide +kernel) (And.intro rfl (And.intro rfl True.intro)) (guard_no rfl) rfl rfl S16_24) (And.intro (F_eff (Ti := [(29, (some v29_44)), (44, (some v44_57))]) hm16 [(29, some 9), (44, some 24)] (by decide +kernel) (And.intro rfl (And.intro rfl (And.intro rfl (And.intro rfl True.intro)))) (guard_no rfl) rfl 4 rfl (by decide +kernel) S16_25 (Grow.refl _ _) (show nx ≤ nx55 by omega) (And.intro (show nx < nx55 ∨ nx55 ≤ nx by omega) (And.intro (show nx23 < nx55 ∨ nx55 ≤ nx23 by omega) True.intro))) (And.intro (F_any (Ti := [(21, (some a4_12))]) hm16 [(21, some 1)] (by decide +kernel) (And.intro rfl (And.intro rfl True.intro)) (guard_no rfl) rfl rfl S16_26) (And.intro (F_any (Ti := [(45, (some v45_59))]) hm16 [(45, some 26)] (by decide +kernel) (And.intro rfl (And.intro rfl True.intro)) (guard_no rfl) rfl rfl S16_27) (And.intro (F_eff (Ti := [(35, (some v35_51)), (46, (some v46_60))]) hm16 [(35, some 15), (46, some 27)] (by decide +kernel) (And.intro rfl (And.intro rfl (And.intro rfl (And.intro rfl True.intro)))) (guard_no rfl) rfl 5 rfl (by decide +kernel) S16_28 (Grow.refl _ _) (show nx ≤ nx55 by omega) (And.intro (show nx < nx55 ∨ nx55 ≤ nx by omega) (And.intro (show nx23 < nx55 ∨ nx55 ≤ nx23 by omega) True.intro))) (And.intro (F_any (Ti := [(22, (some a4_12))]) hm16 [(22, some 2)] (by decide +kernel) (And.intro rfl (And.intro rfl True.intro)) (guard_no rfl) rfl rfl S16_29) (And.intro (F_any (Ti := [(47, (some v47_62))]) hm16 [(47, some 29)] (by decide +kernel) (And.intro rfl (And.intro rfl True.intro)) (guard_no rfl) rfl rfl S16_30) (And.intro (F_eff (Ti := [(42, (some v42_55)), (48, (some v48_63))]) hm16 [(42, some 22), (48, some 30)] (by decide +kernel) (And.intro rfl (And.intro rfl (And.intro rfl (And.intro rfl True.intro)))) (guard_no rfl) rfl 6 rfl (by decide +kernel) S16_31 (Grow.refl _ _) (show nx ≤ nx55 by omega) (And.intro (show nx < nx55 ∨ nx55 ≤ nx by omega) (And.intro (show nx23 < nx55 ∨ nx55 ≤ nx23 by omega) True.intro))) True.intro)))))))))))))))))))))))))))))))) rfl (And.intro (by omega) (And.intro (by omega) (And.intro (by omega) (And.intro (by omega) (And.intro (by omega) (And.intro (by omega) (And.intro (by omega) (And.intro (by omega) True.intro)))))))) (And.intro (by omega) (And.intro (by omega) True.intro)) (Grow.trans (Grow.trans (Grow.refl _ _) W16_14) W16_21) [(4, none), (16, none), (17, none)] [(4, (some a4_12)), (16, (some a16_12)), (17, (some a17_12))] (by decide +kernel) (And.intro rfl (And.intro rfl (And.intro rfl (And.intro rfl (And.intro rfl (And.intro rfl True.intro)))))) rfl (Exists.intro (a4_12, a16_12, a17_12, ()) (And.intro rfl H))
        · intro ⟨a4_14, a16_14, a17_14, _u⟩ h nx H
          refine CJ.region ?_
          refine OJ.rd rfl rfl rfl (r_bin rfl rfl rfl H) ?_
          intro v49_15 H
          refine OJ.mv rfl rfl rfl (r_move rfl rfl) ?_
          exact OJ.done [(4, (some a4_14)), (16, (some a16_14)), (17, (some v49_15))] (And.intro rfl (And.intro rfl (And.intro rfl True.intro))) (ih8p (a4_14, a16_14, v49_15, ()) _ _ H)
    · intro ⟨a4_6, _u⟩ h nx H
      refine CJ.seq ?_
      refine CJ.region ?_
      refine OJ.mv rfl rfl rfl (r_move rfl rfl) ?_
      refine OJ.mv rfl rfl rfl (r_assign rfl rfl) ?_
      refine OJ.mv rfl rfl rfl (r_assign rfl rfl) ?_
      refine OJ.fin ?_
      refine CJ.ret1 ?_
      exact ret_many (vs := [a4_6, (.int .i64 (.ofNat 0))]) [2, 3] (Or.inr rfl) rfl (And.intro rfl (And.intro rfl True.intro)) H

/-! 206 -/
noncomputable def H206  (h : Heap) (nx : Nat) (k : KV) : Bool :=
  H226 (.int .i64 (.ofNat 64)) h nx fun v4_1 h1 nx1 =>
  hExtract v4_1 0 fun v5_2 =>
  hExtract v4_1 1 fun v6_3 =>
  k v5_2 h1 nx1
theorem sim206 {h : Heap} {nx : Nat} {k : KV} (H : H206  h nx k = true) : ∃ v h' nx', k v h' nx' = true ∧ CallSim Tryz.prog 206 [] h nx v h' nx' := by
  refine fn_rule Tryz.func206 rfl rfl ?_
  refine CJ.seq ?_
  refine CJ.region ?_
  refine OJ.mv rfl rfl rfl (r_assign rfl rfl) ?_
  refine OJ.fin ?_
  refine CJ.seq ?_
  refine CJ.region ?_
  refine OJ.fu rfl rfl rfl (r_call (args := [(.int .i64 (.ofNat 64))]) rfl rfl rfl (And.intro rfl True.intro) Tryz.call226 (sim226 H)) ?_
  intro v4_1 h1 nx1 H
  refine OJ.mv rfl rfl rfl (r_move rfl rfl) ?_
  refine OJ.rd rfl rfl rfl (r_extract rfl rfl H) ?_
  intro v5_2 H
  refine OJ.rd rfl rfl rfl (r_extract rfl rfl H) ?_
  intro v6_3 H
  refine OJ.mv rfl rfl rfl (r_assign rfl rfl) ?_
  refine OJ.mv rfl rfl rfl (r_assign rfl rfl) ?_
  refine OJ.fin ?_
  refine CJ.seq ?_
  refine CJ.region ?_
  refine OJ.mv rfl rfl rfl (r_move rfl rfl) ?_
  refine OJ.mv rfl rfl rfl (r_assign rfl rfl) ?_
  refine OJ.fin ?_
  refine CJ.ret1 ?_
  exact ret_one (Or.inr rfl) rfl rfl H

/-! 207 -/
noncomputable def H207_j4 (k : KV)   (h : Heap) (nx : Nat) : Bool :=
  k (.int .i64 (.ofNat 0)) h nx
noncomputable def H207_j2 (k : KV)  (a0_3 : Value) (h : Heap) (nx : Nat) : Bool :=
  lenK Tryz.prog 267 a0_3 h fun v31_6 =>
  binK Tryz.prog .gtr 3 (.tmp 31) (.const (.int .i64 (.ofNat 512))) v31_6 (.int .i64 (.ofNat 512)) fun v32_7 =>
  hIf v32_7 (fun _ => false) (fun _ => H207_j4 k   h nx)
noncomputable def H207_j12 (k : KV) (ih9 : Value → Value → Value → Heap → Nat → Bool)  (h : Heap) (nx : Nat) : Bool :=
  false
noncomputable def H207_l9 (k : KV)  (n : Nat) : Value → Value → Value → Heap → Nat → Bool :=
  Nat.rec (motive := fun _ => Value → Value → Value → Heap → Nat → Bool) (fun _ _ _ _ _ => false) (fun _ ih9 a0_10 a9_10 a10_10 h nx => binK Tryz.prog .lss 3 (.tmp 10) (.tmp 9) a10_10 a9_10 fun v11_11 =>
  hIf v11_11 (fun _ => false) (fun _ => H207_j2 k  a0_10 h nx)) n
noncomputable def H207 (a0 : Value) (h : Heap) (nx : Nat) (k : KV) : Bool :=
  hMakeMap h nx fun v7_1 h1 nx1 =>
  lenK Tryz.prog 267 a0 h1 fun v9_8 =>
  H207_l9 k  200000 a0 v9_8 (.int .i64 (.ofNat 0)) h1 nx1
theorem sim207 {a0 : Value} {h : Heap} {nx : Nat} {k : KV} (H : H207 a0 h nx k = true) : ∃ v h' nx', k v h' nx' = true ∧ CallSim Tryz.prog 207 [a0] h nx v h' nx' := by
  refine fn_rule Tryz.func207 rfl rfl ?_
  refine CJ.seq ?_
  refine CJ.region ?_
  refine OJ.mv rfl rfl rfl (r_assign rfl rfl) ?_
  refine OJ.fin ?_
  refine CJ.seq ?_
  refine CJ.region ?_
  refine OJ.fu rfl rfl rfl (r_makeMap rfl H) ?_
  intro v7_1 h1 nx1 H
  refine OJ.mv rfl rfl rfl (r_assign rfl rfl) ?_
  refine OJ.fin ?_
  refine CJ.seq (CJ.cut (X := Value × Unit) (fun x h nx => H207_j2 k  x.1 h nx) (fun x => [(0, some x.1)]) ?_ ?_)
  · refine CJ.seq ?_
    refine CJ.region ?_
    refine OJ.mv rfl rfl rfl (r_move rfl rfl) ?_
    refine OJ.rd rfl rfl rfl (r_len (x := default) rfl rfl (And.intro rfl True.intro) rfl H) ?_
    intro v9_8 H
    refine OJ.mv rfl rfl rfl (r_move rfl rfl) ?_
    refine OJ.fin ?_
    refine CJ.block ?_
    refine CJ.weaken [(0, (some a0)), (9, (some v9_8)), (10, (some (.int .i64 (.ofNat 0))))] (And.intro rfl (And.intro rfl (And.intro rfl True.intro))) ?_
    refine CJ.loop_ind (X := Value × Value × Value × Unit) (fun n x h nx => H207_l9 k  n x.1 x.2.1 x.2.2.1 h nx) (fun x => [(0, some x.1), (9, some x.2.1), (10, some x.2.2.1)]) (fun _ _ _ => rfl) ?_ 200000 (a0, v9_8, (.int .i64 (.ofNat 0)), ()) _ _ H
    intro ih9n ih9p ⟨a0_10, a9_10, a10_10, _u⟩ h nx H
    let ih9 := H207_l9 k  ih9n
    refine CJ.seq ?_
    refine CJ.region ?_
    refine OJ.rd rfl rfl rfl (r_bin rfl rfl rfl H) ?_
    intro v11_11 H
    refine OJ.fin ?_
    refine CJ.seq (CJ.cut (X := Unit) (fun x h nx => H207_j12 k ih9  h nx) (fun x => []) ?_ ?_)
    · refine CJ.ite rfl H (fun H => ?_) (fun H => ?_)
      · cases H
      · exact CJ.exit [(0, (some a0_10))] (And.intro rfl True.intro) (Exists.intro (a0_10, ()) (And.intro rfl H))
    · intro _u h nx H
      cases H
  · intro ⟨a0_3, _u⟩ h nx H
    refine CJ.seq (CJ.cut (X := Unit) (fun x h nx => H207_j4 k   h nx) (fun x => []) ?_ ?_)
    · refine CJ.seq ?_
      refine CJ.region ?_
      refine OJ.mv rfl rfl rfl (r_move rfl rfl) ?_
      refine OJ.rd rfl rfl rfl (r_len (x := default) rfl rfl (And.intro rfl True.intro) rfl H) ?_
      intro v31_6 H
      refine OJ.rd rfl rfl rfl (r_bin rfl rfl rfl H) ?_
      intro v32_7 H
      refine OJ.fin ?_
      refine CJ.ite rfl H (fun H => ?_) (fun H => ?_)
      · cases H
      · exact CJ.skip [] True.intro (Exists.intro () (And.intro rfl H))
    · intro _u h nx H
      refine CJ.seq ?_
      refine CJ.region ?_
      refine OJ.mv rfl rfl rfl (r_assign rfl rfl) ?_
      refine OJ.fin ?_
      refine CJ.ret1 ?_
      exact ret_one (Or.inr rfl) rfl rfl H

/-! 212 -/
noncomputable def H212_j1 (k : KV)   (h : Heap) (nx : Nat) : Bool :=
  k (.int .i64 (.negSucc 0)) h nx
noncomputable def H212_j7 (k : KV) (ih4 : Value → Value → Heap → Nat → Bool)  (h : Heap) (nx : Nat) : Bool :=
  false
noncomputable def H212_l4 (k : KV)  (n : Nat) : Value → Value → Heap → Nat → Bool :=
  Nat.rec (motive := fun _ => Value → Value → Heap → Nat → Bool) (fun _ _ _ _ => false) (fun _ ih4 a7_5 a8_5 h nx => binK Tryz.prog .lss 3 (.tmp 8) (.tmp 7) a8_5 a7_5 fun v9_6 =>
  hIf v9_6 (fun _ => false) (fun _ => H212_j1 k   h nx)) n
noncomputable def H212 (a0 : Value) (a1 : Value) (h : Heap) (nx : Nat) (k : KV) : Bool :=
  lenK Tryz.prog 267 a0 h fun v7_3 =>
  H212_l4 k  200000 v7_3 (.int .i64 (.ofNat 0)) h nx
theorem sim212 {a0 a1 : Value} {h : Heap} {nx : Nat} {k : KV} (H : H212 a0 a1 h nx k = true) : ∃ v h' nx', k v h' nx' = true ∧ CallSim Tryz.prog 212 [a0, a1] h nx v h' nx' := by
  refine fn_rule Tryz.func212 rfl rfl ?_
  refine CJ.seq ?_
  refine CJ.region ?_
  refine OJ.mv rfl rfl rfl (r_assign rfl rfl) ?_
  refine OJ.fin ?_
  refine CJ.seq (CJ.cut (X := Unit) (fun x h nx => H212_j1 k   h nx) (fun x => []) ?_ ?_)
  · refine CJ.seq ?_
    refine CJ.region ?_
    refine OJ.mv rfl rfl rfl (r_move rfl rfl) ?_
    refine OJ.rd rfl rfl rfl (r_len (x := default) rfl rfl (And.intro rfl True.intro) rfl H) ?_
    intro v7_3 H
    refine OJ.mv rfl rfl rfl (r_move rfl rfl) ?_
    refine OJ.fin ?_
    refine CJ.block ?_
    refine CJ.weaken [(7, (some v7_3)), (8, (some (.int .i64 (.ofNat 0))))] (And.intro rfl (And.intro rfl True.intro)) ?_
    refine CJ.loop_ind (X := Value × Value × Unit) (fun n x h nx => H212_l4 k  n x.1 x.2.1 h nx) (fun x => [(7, some x.1), (8, some x.2.1)]) (fun _ _ _ => rfl) ?_ 200000 (v7_3, (.int .i64 (.ofNat 0)), ()) _ _ H
    intro ih4n ih4p ⟨a7_5, a8_5, _u⟩ h nx H
    let ih4 := H212_l4 k  ih4n
    refine CJ.seq ?_
    refine CJ.region ?_
    refine OJ.rd rfl rfl rfl (r_bin rfl rfl rfl H) ?_
    intro v9_6 H
    refine OJ.fin ?_
    refine CJ.seq (CJ.cut (X := Unit) (fun x h nx => H212_j7 k ih4  h nx) (fun x => []) ?_ ?_)
    · refine CJ.ite rfl H (fun H => ?_) (fun H => ?_)
      · cases H
      · exact CJ.exit [] True.intro (Exists.intro () (And.intro rfl H))
    · intro _u h nx H
      cases H
  · intro _u h nx H
    refine CJ.seq ?_
    refine CJ.region ?_
    refine OJ.mv rfl rfl rfl (r_assign rfl rfl) ?_
    refine OJ.fin ?_
    refine CJ.ret1 ?_
    exact ret_one (Or.inr rfl) rfl rfl H

/-! 208 -/
noncomputable def H208 (a0 : Value) (a1 : Value) (h : Heap) (nx : Nat) (k : KV) : Bool :=
  H212 a0 a1 h nx fun v7_1 h1 nx1 =>
  binK Tryz.prog .geq 3 (.tmp 7) (.const (.int .i64 (.ofNat 0))) v7_1 (.int .i64 (.ofNat 0)) fun v8_2 =>
  k v8_2 h1 nx1
theorem sim208 {a0 a1 : Value} {h : Heap} {nx : Nat} {k : KV} (H : H208 a0 a1 h nx k = true) : ∃ v h' nx', k v h' nx' = true ∧ CallSim Tryz.prog 208 [a0, a1] h nx v h' nx' := by
  refine fn_rule Tryz.func208 rfl rfl ?_
  refine CJ.seq ?_
  refine CJ.region ?_
  refine OJ.mv rfl rfl rfl (r_assign rfl rfl) ?_
  refine OJ.fin ?_
  refine CJ.seq ?_
  refine CJ.region ?_
  refine OJ.mv rfl rfl rfl (r_move rfl rfl) ?_
  refine OJ.mv rfl rfl rfl (r_move rfl rfl) ?_
  refine OJ.fu rfl rfl rfl (r_call (args := [a0, a1]) rfl rfl rfl (And.intro rfl (And.intro rfl True.intro)) Tryz.call212 (sim212 H)) ?_
  intro v7_1 h1 nx1 H
  refine OJ.rd rfl rfl rfl (r_bin rfl rfl rfl H) ?_
  intro v8_2 H
  refine OJ.mv rfl rfl rfl (r_assign rfl rfl) ?_
  refine OJ.fin ?_
  refine CJ.ret1 ?_
  exact ret_one (Or.inr rfl) rfl rfl H

/-! 176 -/
noncomputable def H176_g6 (k : KV)  (v7_5 : Value) (o9_7 : Option Value) (o10_7 : Option Value) (o11_7 : Option Value) (o12_7 : Option Value) (h : Heap) (nx : Nat) : Bool :=
  hPick v7_5 o12_7 (some (.bool false)) fun v13_8 =>
  k v13_8 h nx
noncomputable def H176 (a0 : Value) (h : Heap) (nx : Nat) (k : KV) : Bool :=
  H206  h nx fun v4_1 h1 nx1 =>
  hAlloc Tryz.prog 297 h1 nx1 fun v3_2 h2 nx2 =>
  storeK Tryz.prog 297 v3_2 v4_1 h2 fun h3 =>
  H207 a0 h3 nx2 fun v6_4 h4 nx4 =>
  binK Tryz.prog .eql 44 (.tmp 6) (.const (.int .i64 (.ofNat 0))) v6_4 (.int .i64 (.ofNat 0)) fun v7_5 =>
  hG (some v7_5) true (fun _ => hMakeFunc 209 [] [v3_2] fun v10_9 =>
  H208 a0 v10_9 h4 nx4 fun v11_10 h10 nx10 =>
  hUn Tryz.prog .not v11_10 fun v12_11 =>
  H176_g6 k  v7_5 (some a0) (some v10_9) (some v11_10) (some v12_11) h10 nx10) (fun _ => H176_g6 k  v7_5 none none none none h4 nx4)
theorem sim176 {a0 : Value} {h : Heap} {nx : Nat} {k : KV} (H : H176 a0 h nx k = true) : ∃ v h' nx', k v h' nx' = true ∧ CallSim Tryz.prog 176 [a0] h nx v h' nx' := by
  refine fn_rule Tryz.func176 rfl rfl ?_
  refine CJ.seq ?_
  refine CJ.region ?_
  refine OJ.mv rfl rfl rfl (r_assign rfl rfl) ?_
  refine OJ.fin ?_
  refine CJ.seq ?_
  refine CJ.region ?_
  refine OJ.fu rfl rfl rfl (r_call (args := []) rfl rfl rfl True.intro Tryz.call206 (sim206 H)) ?_
  intro v4_1 h1 nx1 H
  refine OJ.fu rfl rfl rfl (r_alloc1 rfl H) ?_
  intro v3_2 h2 nx2 H
  refine OJ.wr rfl rfl (r_store rfl rfl rfl H) ?_
  intro h3 H
  refine OJ.fin ?_
  refine CJ.seq ?_
  refine CJ.region ?_
  refine OJ.mv rfl rfl rfl (r_move rfl rfl) ?_
  refine OJ.fu rfl rfl rfl (r_call (args := [a0]) rfl rfl rfl (And.intro rfl True.intro) Tryz.call207 (sim207 H)) ?_
  intro v6_4 h4 nx4 H
  refine OJ.rd rfl rfl rfl (r_bin rfl rfl rfl H) ?_
  intro v7_5 H
  refine OJ.mv rfl rfl rfl (r_move rfl rfl) ?_
  refine OJ.cut (X := Option Value × Option Value × Option Value × Option Value × Unit) 4 (fun x h nx => H176_g6 k  v7_5 x.1 x.2.1 x.2.2.1 x.2.2.2.1 h nx) (fun x => [(9, x.1), (10, x.2.1), (11, x.2.2.1), (12, x.2.2.2.1), (8, (some v7_5))]) ?_ (fun next => ?_)
  · intro ⟨o9_7, o10_7, o11_7, o12_7, _u⟩ h nx H
    refine OJ.rd rfl rfl rfl (r_pick rfl rfl rfl rfl H) ?_
    intro v13_8 H
    refine OJ.mv rfl rfl rfl (r_assign rfl rfl) ?_
    refine OJ.fin ?_
    refine CJ.ret1 ?_
    exact ret_one (Or.inr rfl) rfl rfl H
  · rcases hG_true H with ⟨g, H⟩ | ⟨g, H⟩
    · refine OJ.gmv rfl rfl rfl g rfl rfl (r_move rfl rfl) ?_
      refine OJ.grd rfl rfl rfl g rfl rfl (r_makeFunc (fs := []) (cs := [v3_2]) rfl True.intro (And.intro rfl True.intro) H) ?_
      intro v10_9 H
      refine OJ.gfu rfl rfl rfl g rfl rfl (r_call (args := [a0, v10_9]) rfl rfl rfl (And.intro rfl (And.intro rfl True.intro)) Tryz.call208 (sim208 H)) ?_
      intro v11_10 h10 nx10 H
      refine OJ.grd rfl rfl rfl g rfl rfl (r_un rfl rfl H) ?_
      intro v12_11 H
      exact OJ.weaken [(9, (some a0)), (10, (some v10_9)), (11, (some v11_10)), (12, (some v12_11)), (8, (some v7_5))] (And.intro rfl (And.intro rfl (And.intro rfl (And.intro rfl (And.intro rfl True.intro))))) (next ((some a0), (some v10_9), (some v11_10), (some v12_11), ()) _ _ H)
    · refine OJ.no rfl rfl rfl g rfl rfl ?_
      refine OJ.no rfl rfl rfl g rfl rfl ?_
      refine OJ.no rfl rfl rfl g rfl rfl ?_
      refine OJ.no rfl rfl rfl g rfl rfl ?_
      exact OJ.weaken [(9, none), (10, none), (11, none), (12, none), (8, (some v7_5))] (And.intro rfl (And.intro rfl (And.intro rfl (And.intro rfl (And.intro rfl True.intro))))) (next (none, none, none, none, ()) _ _ H)

/-! 181 -/
noncomputable def H181_j1 (k : KV)   (h : Heap) (nx : Nat) : Bool :=
  k (.int .i64 (.negSucc 0)) h nx
noncomputable def H181_j7 (k : KV) (ih4 : Value → Value → Heap → Nat → Bool)  (h : Heap) (nx : Nat) : Bool :=
  false
noncomputable def H181_l4 (k : KV)  (n : Nat) : Value → Value → Heap → Nat → Bool :=
  Nat.rec (motive := fun _ => Value → Value → Heap → Nat → Bool) (fun _ _ _ _ => false) (fun _ ih4 a7_5 a8_5 h nx => binK Tryz.prog .lss 3 (.tmp 8) (.tmp 7) a8_5 a7_5 fun v9_6 =>
  hIf v9_6 (fun _ => false) (fun _ => H181_j1 k   h nx)) n
noncomputable def H181 (a0 : Value) (a1 : Value) (h : Heap) (nx : Nat) (k : KV) : Bool :=
  lenK Tryz.prog 32 a0 h fun v7_3 =>
  H181_l4 k  200000 v7_3 (.int .i64 (.ofNat 0)) h nx
theorem sim181 {a0 a1 : Value} {h : Heap} {nx : Nat} {k : KV} (H : H181 a0 a1 h nx k = true) : ∃ v h' nx', k v h' nx' = true ∧ CallSim Tryz.prog 181 [a0, a1] h nx v h' nx' := by
  refine fn_rule Tryz.func181 rfl rfl ?_
  refine CJ.seq ?_
  refine CJ.region ?_
  refine OJ.mv rfl rfl rfl (r_assign rfl rfl) ?_
  refine OJ.fin ?_
  refine CJ.seq (CJ.cut (X := Unit) (fun x h nx => H181_j1 k   h nx) (fun x => []) ?_ ?_)
  · refine CJ.seq ?_
    refine CJ.region ?_
    refine OJ.mv rfl rfl rfl (r_move rfl rfl) ?_
    refine OJ.rd rfl rfl rfl (r_len (x := default) rfl rfl (And.intro rfl True.intro) rfl H) ?_
    intro v7_3 H
    refine OJ.mv rfl rfl rfl (r_move rfl rfl) ?_
    refine OJ.fin ?_
    refine CJ.block ?_
    refine CJ.weaken [(7, (some v7_3)), (8, (some (.int .i64 (.ofNat 0))))] (And.intro rfl (And.intro rfl True.intro)) ?_
    refine CJ.loop_ind (X := Value × Value × Unit) (fun n x h nx => H181_l4 k  n x.1 x.2.1 h nx) (fun x => [(7, some x.1), (8, some x.2.1)]) (fun _ _ _ => rfl) ?_ 200000 (v7_3, (.int .i64 (.ofNat 0)), ()) _ _ H
    intro ih4n ih4p ⟨a7_5, a8_5, _u⟩ h nx H
    let ih4 := H181_l4 k  ih4n
    refine CJ.seq ?_
    refine CJ.region ?_
    refine OJ.rd rfl rfl rfl (r_bin rfl rfl rfl H) ?_
    intro v9_6 H
    refine OJ.fin ?_
    refine CJ.seq (CJ.cut (X := Unit) (fun x h nx => H181_j7 k ih4  h nx) (fun x => []) ?_ ?_)
    · refine CJ.ite rfl H (fun H => ?_) (fun H => ?_)
      · cases H
      · exact CJ.exit [] True.intro (Exists.intro () (And.intro rfl H))
    · intro _u h nx H
      cases H
  · intro _u h nx H
    refine CJ.seq ?_
    refine CJ.region ?_
    refine OJ.mv rfl rfl rfl (r_assign rfl rfl) ?_
    refine OJ.fin ?_
    refine CJ.ret1 ?_
    exact ret_one (Or.inr rfl) rfl rfl H

/-! 216 -/
noncomputable def H216_j2 (k : KV)   (h : Heap) (nx : Nat) : Bool :=
  false
noncomputable def H216 (a0 : Value) (a1 : Value) (h : Heap) (nx : Nat) (k : KV) : Bool :=
  H181 a0 a1 h nx fun v10_1 h1 nx1 =>
  binK Tryz.prog .eql 3 (.tmp 11) (.const (.int .i64 (.negSucc 0))) v10_1 (.int .i64 (.negSucc 0)) fun v12_4 =>
  hIf v12_4 (fun _ => k a0 h1 nx1) (fun _ => false)
theorem sim216 {a0 a1 : Value} {h : Heap} {nx : Nat} {k : KV} (H : H216 a0 a1 h nx k = true) : ∃ v h' nx', k v h' nx' = true ∧ CallSim Tryz.prog 216 [a0, a1] h nx v h' nx' := by
  refine fn_rule Tryz.func216 rfl rfl ?_
  refine CJ.seq ?_
  refine CJ.region ?_
  refine OJ.mv rfl rfl rfl (r_assign rfl rfl) ?_
  refine OJ.fin ?_
  refine CJ.seq ?_
  refine CJ.region ?_
  refine OJ.mv rfl rfl rfl (r_move rfl rfl) ?_
  refine OJ.mv rfl rfl rfl (r_move rfl rfl) ?_
  refine OJ.fu rfl rfl rfl (r_call (args := [a0, a1]) rfl rfl rfl (And.intro rfl (And.intro rfl True.intro)) Tryz.call181 (sim181 H)) ?_
  intro v10_1 h1 nx1 H
  refine OJ.mv rfl rfl rfl (r_assign rfl rfl) ?_
  refine OJ.fin ?_
  refine CJ.seq (CJ.cut (X := Unit) (fun x h nx => H216_j2 k   h nx) (fun x => []) ?_ ?_)
  · refine CJ.seq ?_
    refine CJ.region ?_
    refine OJ.mv rfl rfl rfl (r_move rfl rfl) ?_
    refine OJ.rd rfl rfl rfl (r_bin rfl rfl rfl H) ?_
    intro v12_4 H
    refine OJ.fin ?_
    refine CJ.ite rfl H (fun H => ?_) (fun H => ?_)
    · refine CJ.seq ?_
      refine CJ.region ?_
      refine OJ.mv rfl rfl rfl (r_move rfl rfl) ?_
      refine OJ.mv rfl rfl rfl (r_assign rfl rfl) ?_
      refine OJ.fin ?_
      refine CJ.ret1 ?_
      exact ret_one (Or.inr rfl) rfl rfl H
    · cases H
  · intro _u h nx H
    cases H

/-! 183 -/
noncomputable def H183_j2 (k : KV)  (a1_3 : Value) (h : Heap) (nx : Nat) : Bool :=
  hFieldAddr Tryz.prog 34 a1_3 1 fun v10_4 =>
  loadK Tryz.prog 32 v10_4 h fun v11_5 =>
  H51 v11_5 h nx fun v12_6 h6 nx6 =>
  hMakeFunc 217 [] [a1_3] fun v13_7 =>
  H216 v12_6 v13_7 h6 nx6 fun v14_8 h8 nx8 =>
  hRet [v14_8, (.int .i64 (.ofNat 0))] h8 nx8 k
noncomputable def H183 (a0 : Value) (h : Heap) (nx : Nat) (k : KV) : Bool :=
  hBox a0 h nx fun v1_1 h1 nx1 =>
  loadK Tryz.prog 34 v1_1 h1 fun v5_9 =>
  H145 v5_9 h1 nx1 fun v6_10 h10 nx10 =>
  binK Tryz.prog .neq 44 (.tmp 7) (.const (.int .i64 (.ofNat 0))) v6_10 (.int .i64 (.ofNat 0)) fun v8_11 =>
  hIf v8_11 (fun _ => false) (fun _ => H183_j2 k  v1_1 h10 nx10)
theorem sim183 {a0 : Value} {h : Heap} {nx : Nat} {k : KV} (H : H183 a0 h nx k = true) : ∃ v h' nx', k v h' nx' = true ∧ CallSim Tryz.prog 183 [a0] h nx v h' nx' := by
  refine fn_rule Tryz.func183 rfl rfl ?_
  refine CJ.seq ?_
  refine CJ.region ?_
  refine OJ.fu rfl rfl rfl (r_box rfl rfl H) ?_
  intro v1_1 h1 nx1 H
  refine OJ.mv rfl rfl rfl (r_assign rfl rfl) ?_
  refine OJ.mv rfl rfl rfl (r_assign rfl rfl) ?_
  refine OJ.fin ?_
  refine CJ.seq (CJ.cut (X := Value × Unit) (fun x h nx => H183_j2 k  x.1 h nx) (fun x => [(1, some x.1)]) ?_ ?_)
  · refine CJ.seq ?_
    refine CJ.region ?_
    refine OJ.rd rfl rfl rfl (r_load rfl rfl H) ?_
    intro v5_9 H
    refine OJ.fu rfl rfl rfl (r_call (args := [v5_9]) rfl rfl rfl (And.intro rfl True.intro) Tryz.call145 (sim145 H)) ?_
    intro v6_10 h10 nx10 H
    refine OJ.mv rfl rfl rfl (r_assign rfl rfl) ?_
    refine OJ.fin ?_
    refine CJ.seq ?_
    refine CJ.region ?_
    refine OJ.mv rfl rfl rfl (r_move rfl rfl) ?_
    refine OJ.rd rfl rfl rfl (r_bin rfl rfl rfl H) ?_
    intro v8_11 H
    refine OJ.fin ?_
    refine CJ.ite rfl H (fun H => ?_) (fun H => ?_)
    · cases H
    · exact CJ.skip [(1, (some v1_1))] (And.intro rfl True.intro) (Exists.intro (v1_1, ()) (And.intro rfl H))
  · intro ⟨a1_3, _u⟩ h nx H
    refine CJ.seq ?_
    refine CJ.region ?_
    refine OJ.rd rfl rfl rfl (r_fieldAddr rfl rfl H) ?_
    intro v10_4 H
    refine OJ.rd rfl rfl rfl (r_load rfl rfl H) ?_
    intro v11_5 H
    refine OJ.fu rfl rfl rfl (r_call (args := [v11_5]) rfl rfl rfl (And.intro rfl True.intro) Tryz.call51 (sim51 H)) ?_
    intro v12_6 h6 nx6 H
    refine OJ.rd rfl rfl rfl (r_makeFunc (fs := []) (cs := [a1_3]) rfl True.intro (And.intro rfl True.intro) H) ?_
    intro v13_7 H
    refine OJ.fu rfl rfl rfl (r_call (args := [v12_6, v13_7]) rfl rfl rfl (And.intro rfl (And.intro rfl True.intro)) Tryz.call216 (sim216 H)) ?_
    intro v14_8 h8 nx8 H
    refine OJ.mv rfl rfl rfl (r_assign rfl rfl) ?_
    refine OJ.mv rfl rfl rfl (r_assign rfl rfl) ?_
    refine OJ.fin ?_
    refine CJ.ret1 ?_
    exact ret_many (vs := [v14_8, (.int .i64 (.ofNat 0))]) [2, 3] (Or.inr rfl) rfl (And.intro rfl (And.intro rfl True.intro)) H

end Go.Proofs
