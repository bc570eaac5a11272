import Derived.Test.YtakdilnjnpbbdaaGreatH25nP1
import Derived.Test.YtakdilnjnpbbdaaGreatAmG
import Derived.Test.YtakdilnjnpbbdaaGreatProg
set_option linter.unusedVariables false
set_option maxRecDepth 8000
namespace Go.Proofs
open Go.AM
attribute [local irreducible] loadK storeK hNil binK hUn hConv hFieldAddr hField hIndexAddr hIndex hExtract hAlloc hBox hMakeMap hMakeFunc hMakeSlice lenK capK hAppend hCopy hMin hMax hSlice hBuild hBuildSlice hLookup hMapUpdate hClear hNT hIs hL0 hLc hFn optK hPick hIf hG hRet appendK copyK
/-! 160 -/
noncomputable def H160_j22 (k : KV)   (h : Heap) (nx : Nat) : Bool :=
  false
noncomputable def H160_j16 (k : KV)  (a1_17 : Value) (a2_17 : Value) (h : Heap) (nx : Nat) : Bool :=
  loadK Tryz.prog 34 a1_17 h fun v79_18 =>
  H183 v79_18 h nx fun v80_19 h19 nx19 =>
  hExtract v80_19 0 fun v81_20 =>
  hExtract v80_19 1 fun v82_21 =>
  lenK Tryz.prog 32 v81_20 h19 fun v84_24 =>
  binK Tryz.prog .eql 3 (.tmp 84) (.const (.int .i64 (.ofNat 0))) v84_24 (.int .i64 (.ofNat 0)) fun v85_25 =>
  hIf v85_25 (fun _ => hBuild Tryz.prog 86 [(0, (.int .i64 (.ofNat 1)))] fun v86_26 =>
  storeK Tryz.prog 86 a2_17 v86_26 h19 fun h27 =>
  loadK Tryz.prog 86 a2_17 h27 fun r28 => hNT (.int .i64 (.ofNat 0)) fun _ => k (resV [r28, (.int .i64 (.ofNat 0))]) h27 nx19) (fun _ => false)
noncomputable def H160_j34 (k : KV) (ih31 : Value → Value → Value → Value → Heap → Nat → Bool)  (h : Heap) (nx : Nat) : Bool :=
  false
noncomputable def H160_l31 (k : KV)  (n : Nat) : Value → Value → Value → Value → Heap → Nat → Bool :=
  Nat.rec (motive := fun _ => Value → Value → Value → Value → Heap → Nat → Bool) (fun _ _ _ _ _ _ => false) (fun _ ih31 a1_32 a2_32 a37_32 a38_32 h nx => binK Tryz.prog .lss 3 (.tmp 38) (.tmp 37) a38_32 a37_32 fun v39_33 =>
  hIf v39_33 (fun _ => false) (fun _ => H160_j16 k  a1_32 a2_32 h nx)) n
noncomputable def H160_j13 (k : KV)  (a1_14 : Value) (a2_14 : Value) (a4_14 : Value) (h : Heap) (nx : Nat) : Bool :=
  H155 a4_14 (.func (.func 177) ⟨[]⟩ ⟨[]⟩) h nx fun v35_15 h15 nx15 =>
  lenK Tryz.prog 32 a4_14 h15 fun v37_30 =>
  H160_l31 k  200000 a1_14 a2_14 v37_30 (.int .i64 (.ofNat 0)) h15 nx15
noncomputable def H160_j7 (k : KV)  (a1_8 : Value) (a2_8 : Value) (a4_8 : Value) (h : Heap) (nx : Nat) : Bool :=
  loadK Tryz.prog 34 a1_8 h fun v26_9 =>
  H175 v26_9 h nx fun v27_10 h10 nx10 =>
  hExtract v27_10 0 fun v28_11 =>
  hExtract v27_10 1 fun v29_12 =>
  H176 v28_11 h10 nx10 fun v31_36 h36 nx36 =>
  hUn Tryz.prog .not v31_36 fun v32_37 =>
  hIf v32_37 (fun _ => false) (fun _ => H160_j13 k  a1_8 a2_8 a4_8 h36 nx36)
noncomputable def H160 (a0 : Value) (h : Heap) (nx : Nat) (k : KV) : Bool :=
  hBox a0 h nx fun v1_1 h1 nx1 =>
  hAlloc Tryz.prog 86 h1 nx1 fun v2_2 h2 nx2 =>
  loadK Tryz.prog 34 v1_1 h2 fun v17_3 =>
  H174 v17_3 h2 nx2 fun v18_4 h4 nx4 =>
  hExtract v18_4 0 fun v19_5 =>
  hExtract v18_4 1 fun v20_6 =>
  binK Tryz.prog .neq 44 (.tmp 21) (.const (.int .i64 (.ofNat 0))) v20_6 (.int .i64 (.ofNat 0)) fun v22_38 =>
  hIf v22_38 (fun _ => false) (fun _ => H160_j7 k  v1_1 v2_2 v19_5 h4 nx4)
theorem sim160 {a0 : Value} {h : Heap} {nx : Nat} {k : KV} (H : H160 a0 h nx k = true) : ∃ v h' nx', k v h' nx' = true ∧ CallSim Tryz.prog 160 [a0] h nx v h' nx' := by
  refine fn_rule Tryz.func160 rfl rfl ?_
  refine CJ.seq ?_
  refine CJ.region ?_
  refine OJ.fu rfl rfl rfl (r_box rfl rfl H) ?_
  intro v1_1 h1 nx1 H
  refine OJ.fu rfl rfl rfl (r_alloc1 rfl H) ?_
  intro v2_2 h2 nx2 H
  refine OJ.mv rfl rfl rfl (r_assign rfl rfl) ?_
  refine OJ.fin ?_
  refine CJ.seq ?_
  refine CJ.region ?_
  refine OJ.rd rfl rfl rfl (r_load rfl rfl H) ?_
  intro v17_3 H
  refine OJ.fu rfl rfl rfl (r_call (args := [v17_3]) rfl rfl rfl (And.intro rfl True.intro) Tryz.call174 (sim174 H)) ?_
  intro v18_4 h4 nx4 H
  refine OJ.mv rfl rfl rfl (r_move rfl rfl) ?_
  refine OJ.rd rfl rfl rfl (r_extract rfl rfl H) ?_
  intro v19_5 H
  refine OJ.rd rfl rfl rfl (r_extract rfl rfl H) ?_
  intro v20_6 H
  refine OJ.mv rfl rfl rfl (r_assign rfl rfl) ?_
  refine OJ.mv rfl rfl rfl (r_assign rfl rfl) ?_
  refine OJ.fin ?_
  refine CJ.seq (CJ.cut (X := Value × Value × Value × Unit) (fun x h nx => H160_j7 k  x.1 x.2.1 x.2.2.1 h nx) (fun x => [(1, some x.1), (2, some x.2.1), (4, some x.2.2.1)]) ?_ ?_)
  · refine CJ.seq ?_
    refine CJ.region ?_
    refine OJ.mv rfl rfl rfl (r_move rfl rfl) ?_
    refine OJ.rd rfl rfl rfl (r_bin rfl rfl rfl H) ?_
    intro v22_38 H
    refine OJ.fin ?_
    refine CJ.ite rfl H (fun H => ?_) (fun H => ?_)
    · cases H
    · exact CJ.skip [(1, (some v1_1)), (2, (some v2_2)), (4, (some v19_5))] (And.intro rfl (And.intro rfl (And.intro rfl True.intro))) (Exists.intro (v1_1, v2_2, v19_5, ()) (And.intro rfl H))
  · intro ⟨a1_8, a2_8, a4_8, _u⟩ h nx H
    refine CJ.seq ?_
    refine CJ.region ?_
    refine OJ.rd rfl rfl rfl (r_load rfl rfl H) ?_
    intro v26_9 H
    refine OJ.fu rfl rfl rfl (r_call (args := [v26_9]) rfl rfl rfl (And.intro rfl True.intro) Tryz.call175 (sim175 H)) ?_
    intro v27_10 h10 nx10 H
    refine OJ.mv rfl rfl rfl (r_move rfl rfl) ?_
    refine OJ.rd rfl rfl rfl (r_extract rfl rfl H) ?_
    intro v28_11 H
    refine OJ.rd rfl rfl rfl (r_extract rfl rfl H) ?_
    intro v29_12 H
    refine OJ.mv rfl rfl rfl (r_assign rfl rfl) ?_
    refine OJ.mv rfl rfl rfl (r_assign rfl rfl) ?_
    refine OJ.fin ?_
    refine CJ.seq (CJ.cut (X := Value × Value × Value × Unit) (fun x h nx => H160_j13 k  x.1 x.2.1 x.2.2.1 h nx) (fun x => [(1, some x.1), (2, some x.2.1), (4, some x.2.2.1)]) ?_ ?_)
    · refine CJ.seq ?_
      refine CJ.region ?_
      refine OJ.mv rfl rfl rfl (r_move rfl rfl) ?_
      refine OJ.fu rfl rfl rfl (r_call (args := [v28_11]) rfl rfl rfl (And.intro rfl True.intro) Tryz.call176 (sim176 H)) ?_
      intro v31_36 h36 nx36 H
      refine OJ.rd rfl rfl rfl (r_un rfl rfl H) ?_
      intro v32_37 H
      refine OJ.fin ?_
      refine CJ.ite rfl H (fun H => ?_) (fun H => ?_)
      · cases H
      · exact CJ.skip [(1, (some a1_8)), (2, (some a2_8)), (4, (some a4_8))] (And.intro rfl (And.intro rfl (And.intro rfl True.intro))) (Exists.intro (a1_8, a2_8, a4_8, ()) (And.intro rfl H))
    · intro ⟨a1_14, a2_14, a4_14, _u⟩ h nx H
      refine CJ.seq ?_
      refine CJ.region ?_
      refine OJ.mv rfl rfl rfl (r_move rfl rfl) ?_
      refine OJ.fu rfl rfl rfl (r_call (args := [a4_14, (.func (.func 177) ⟨[]⟩ ⟨[]⟩)]) rfl rfl rfl (And.intro rfl (And.intro rfl True.intro)) Tryz.call155 (sim155 H)) ?_
      intro v35_15 h15 nx15 H
      refine OJ.fin ?_
      refine CJ.seq (CJ.cut (X := Value × Value × Unit) (fun x h nx => H160_j16 k  x.1 x.2.1 h nx) (fun x => [(1, some x.1), (2, some x.2.1)]) ?_ ?_)
      · refine CJ.seq ?_
        refine CJ.region ?_
        refine OJ.mv rfl rfl rfl (r_move rfl rfl) ?_
        refine OJ.rd rfl rfl rfl (r_len (x := default) rfl rfl (And.intro rfl True.intro) rfl H) ?_
        intro v37_30 H
        refine OJ.mv rfl rfl rfl (r_move rfl rfl) ?_
        refine OJ.fin ?_
        refine CJ.block ?_
        refine CJ.weaken [(1, (some a1_14)), (2, (some a2_14)), (37, (some v37_30)), (38, (some (.int .i64 (.ofNat 0))))] (And.intro rfl (And.intro rfl (And.intro rfl (And.intro rfl True.intro)))) ?_
        refine CJ.loop_ind (X := Value × Value × Value × Value × Unit) (fun n x h nx => H160_l31 k  n x.1 x.2.1 x.2.2.1 x.2.2.2.1 h nx) (fun x => [(1, some x.1), (2, some x.2.1), (37, some x.2.2.1), (38, some x.2.2.2.1)]) (fun _ _ _ => rfl) ?_ 200000 (a1_14, a2_14, v37_30, (.int .i64 (.ofNat 0)), ()) _ _ H
        intro ih31n ih31p ⟨a1_32, a2_32, a37_32, a38_32, _u⟩ h nx H
        let ih31 := H160_l31 k  ih31n
        refine CJ.seq ?_
        refine CJ.region ?_
        refine OJ.rd rfl rfl rfl (r_bin rfl rfl rfl H) ?_
        intro v39_33 H
        refine OJ.fin ?_
        refine CJ.seq (CJ.cut (X := Unit) (fun x h nx => H160_j34 k ih31  h nx) (fun x => []) ?_ ?_)
        · refine CJ.ite rfl H (fun H => ?_) (fun H => ?_)
          · cases H
          · exact CJ.exit [(1, (some a1_32)), (2, (some a2_32))] (And.intro rfl (And.intro rfl True.intro)) (Exists.intro (a1_32, a2_32, ()) (And.intro rfl H))
        · intro _u h nx H
          cases H
      · intro ⟨a1_17, a2_17, _u⟩ h nx H
        refine CJ.seq ?_
        refine CJ.region ?_
        refine OJ.rd rfl rfl rfl (r_load rfl rfl H) ?_
        intro v79_18 H
        refine OJ.fu rfl rfl rfl (r_call (args := [v79_18]) rfl rfl rfl (And.intro rfl True.intro) Tryz.call183 (sim183 H)) ?_
        intro v80_19 h19 nx19 H
        refine OJ.mv rfl rfl rfl (r_move rfl rfl) ?_
        refine OJ.rd rfl rfl rfl (r_extract rfl rfl H) ?_
        intro v81_20 H
        refine OJ.rd rfl rfl rfl (r_extract rfl rfl H) ?_
        intro v82_21 H
        refine OJ.mv rfl rfl rfl (r_assign rfl rfl) ?_
        refine OJ.mv rfl rfl rfl (r_assign rfl rfl) ?_
        refine OJ.fin ?_
        refine CJ.seq (CJ.cut (X := Unit) (fun x h nx => H160_j22 k   h nx) (fun x => []) ?_ ?_)
        · refine CJ.seq ?_
          refine CJ.region ?_
          refine OJ.mv rfl rfl rfl (r_move rfl rfl) ?_
          refine OJ.rd rfl rfl rfl (r_len (x := default) rfl rfl (And.intro rfl True.intro) rfl H) ?_
          intro v84_24 H
          refine OJ.rd rfl rfl rfl (r_bin rfl rfl rfl H) ?_
          intro v85_25 H
          refine OJ.fin ?_
          refine CJ.ite rfl H (fun H => ?_) (fun H => ?_)
          · refine CJ.seq ?_
            refine CJ.region ?_
            refine OJ.rd rfl rfl rfl (r_build (vs := [(0, (.int .i64 (.ofNat 1)))]) rfl (And.intro rfl (And.intro rfl True.intro)) H) ?_
            intro v86_26 H
            refine OJ.wr rfl rfl (r_store rfl rfl rfl H) ?_
            intro h27 H
            refine OJ.mv rfl rfl rfl (r_assign rfl rfl) ?_
            refine OJ.fin ?_
            refine CJ.ret1 ?_
            obtain ⟨r28, H, l28⟩ := load_val H
            obtain ⟨n29, H⟩ := hNT_true H
            exact ret_gen (vs := [r28, (.int .i64 (.ofNat 0))]) (Or.inr rfl) (And.intro (Exists.intro a2_17 (And.intro rfl l28)) (And.intro rfl (And.intro n29 True.intro))) H
          · cases H
        · intro _u h nx H
          cases H

/-! 129 -/
noncomputable def H129_j7 (k : KV)  (a0_8 : Value) (a2_8 : Value) (h : Heap) (nx : Nat) : Bool :=
  loadK Tryz.prog 34 a2_8 h fun v74_9 =>
  H160 v74_9 h nx fun v75_10 h10 nx10 =>
  hExtract v75_10 0 fun v76_11 =>
  hExtract v75_10 1 fun v77_12 =>
  hAlloc Tryz.prog 86 h10 nx10 fun v4_13 h13 nx13 =>
  storeK Tryz.prog 86 v4_13 v76_11 h13 fun h14 =>
  hNil a0_8 fun v79_15 =>
  hFieldAddr Tryz.prog 176 v79_15 0 fun v80_16 =>
  hFieldAddr Tryz.prog 36 v80_16 7 fun v81_17 =>
  storeK Tryz.prog 3 v81_17 (.int .i64 (.ofNat 3)) h14 fun h18 =>
  binK Tryz.prog .eql 44 (.tmp 82) (.const (.int .i64 (.ofNat 0))) v77_12 (.int .i64 (.ofNat 0)) fun v83_19 =>
  hIf v83_19 (fun _ => loadK Tryz.prog 86 v4_13 h18 fun v85_20 =>
  loadK Tryz.prog 34 a2_8 h18 fun v86_21 =>
  H130 a0_8 v85_20 v86_21 h18 nx13 fun v87_22 h22 nx22 =>
  hRet [] h22 nx22 k) (fun _ => false)
noncomputable def H129_j5 (k : KV)  (a0_6 : Value) (a2_6 : Value) (h : Heap) (nx : Nat) : Bool :=
  hNil a0_6 fun v50_23 =>
  hFieldAddr Tryz.prog 176 v50_23 0 fun v51_24 =>
  hFieldAddr Tryz.prog 36 v51_24 3 fun v52_25 =>
  loadK Tryz.prog 3 v52_25 h fun v53_26 =>
  binK Tryz.prog .neq 3 (.tmp 53) (.const (.int .i64 (.ofNat 0))) v53_26 (.int .i64 (.ofNat 0)) fun v54_27 =>
  hIf v54_27 (fun _ => false) (fun _ => H129_j7 k  a0_6 a2_6 h nx)
noncomputable def H129_j3 (k : KV)  (a0_4 : Value) (a2_4 : Value) (a3_4 : Value) (h : Heap) (nx : Nat) : Bool :=
  binK Tryz.prog .neq 44 (.tmp 42) (.const (.int .i64 (.ofNat 0))) a3_4 (.int .i64 (.ofNat 0)) fun v43_28 =>
  hIf v43_28 (fun _ => false) (fun _ => H129_j5 k  a0_4 a2_4 h nx)
noncomputable def H129_j1 (k : KV)  (a0_2 : Value) (h : Heap) (nx : Nat) : Bool :=
  hNil a0_2 fun v30_30 =>
  hFieldAddr Tryz.prog 176 v30_30 0 fun v31_31 =>
  loadK Tryz.prog 36 v31_31 h fun v32_32 =>
  hNil a0_2 fun v35_33 =>
  hFieldAddr Tryz.prog 176 v35_33 0 fun v36_34 =>
  hFieldAddr Tryz.prog 36 v36_34 6 fun v37_35 =>
  loadK Tryz.prog 34 v37_35 h fun v38_36 =>
  hAlloc Tryz.prog 34 h nx fun v2_37 h37 nx37 =>
  loadK Tryz.prog 36 v31_31 h37 fun v32_39 =>
  hEq v32_39 v32_32 fun _ => loadK Tryz.prog 34 v37_35 h37 fun v38_41 =>
  hEq v38_41 v38_36 fun _ => H159 v32_32 h37 nx37 fun v33_42 h42 nx42 =>
  loadK Tryz.prog 34 v37_35 h42 fun v38_44 =>
  hEq v38_44 v38_36 fun _ => hSame h37 h42 nx fun _ => H127 v33_42 v38_36 h42 nx42 fun v39_46 h46 nx46 =>
  hExtract v39_46 0 fun v40_47 =>
  hExtract v39_46 1 fun v41_48 =>
  hSame h37 h46 nx fun _ => storeK Tryz.prog 34 v2_37 v40_47 h46 fun h50 =>
  H129_j3 k  a0_2 v2_37 v41_48 h50 nx46
noncomputable def H129_g59 (k : KV)  (a0 : Value) (v19_58 : Value) (o21_60 : Option Value) (o22_60 : Option Value) (o23_60 : Option Value) (o24_60 : Option Value) (o25_60 : Option Value) (o26_60 : Option Value) (h : Heap) (nx : Nat) : Bool :=
  hPick v19_58 (some (.bool true)) o26_60 fun v27_61 =>
  hIf v27_61 (fun _ => false) (fun _ => H129_j1 k  a0 h nx)
noncomputable def H129_g56 (k : KV)  (a0 : Value) (v10_55 : Value) (o12_57 : Option Value) (o13_57 : Option Value) (o14_57 : Option Value) (o15_57 : Option Value) (o16_57 : Option Value) (o17_57 : Option Value) (o18_57 : Option Value) (h : Heap) (nx : Nat) : Bool :=
  hPick v10_55 (some (.bool true)) o18_57 fun v19_58 =>
  hG (some v19_58) false (fun _ => hNil a0 fun v22_62 =>
  hFieldAddr Tryz.prog 176 v22_62 0 fun v23_63 =>
  hFieldAddr Tryz.prog 36 v23_63 4 fun v24_64 =>
  loadK Tryz.prog 30 v24_64 h fun v25_65 =>
  H157 v25_65 (.func (.func 158) ⟨[]⟩ ⟨[]⟩) h nx fun v26_66 h66 nx66 =>
  H129_g59 k  a0 v19_58 (some a0) (some v22_62) (some v23_63) (some v24_64) (some v25_65) (some v26_66) h66 nx66) (fun _ => H129_g59 k  a0 v19_58 none none none none none none h nx)
noncomputable def H129 (a0 : Value) (h : Heap) (nx : Nat) (k : KV) : Bool :=
  hNil a0 fun v6_51 =>
  hFieldAddr Tryz.prog 176 v6_51 0 fun v7_52 =>
  hFieldAddr Tryz.prog 36 v7_52 7 fun v8_53 =>
  loadK Tryz.prog 3 v8_53 h fun v9_54 =>
  binK Tryz.prog .neq 3 (.tmp 9) (.const (.int .i64 (.ofNat 1))) v9_54 (.int .i64 (.ofNat 1)) fun v10_55 =>
  hG (some v10_55) false (fun _ => hNil a0 fun v13_67 =>
  hFieldAddr Tryz.prog 176 v13_67 0 fun v14_68 =>
  hFieldAddr Tryz.prog 36 v14_68 5 fun v15_69 =>
  loadK Tryz.prog 31 v15_69 h fun v16_70 =>
  lenK Tryz.prog 31 v16_70 h fun v17_71 =>
  binK Tryz.prog .gtr 3 (.tmp 17) (.const (.int .i64 (.ofNat 0))) v17_71 (.int .i64 (.ofNat 0)) fun v18_72 =>
  H129_g56 k  a0 v10_55 (some a0) (some v13_67) (some v14_68) (some v15_69) (some v16_70) (some v17_71) (some v18_72) h nx) (fun _ => H129_g56 k  a0 v10_55 none none none none none none none h nx)
theorem sim129 {a0 : Value} {h : Heap} {nx : Nat} {k : KV} (H : H129 a0 h nx k = true) : ∃ v h' nx', k v h' nx' = true ∧ CallSim Tryz.prog 129 [a0] h nx v h' nx' := by
  refine fn_rule Tryz.func129 rfl rfl ?_
  refine CJ.seq (CJ.cut (X := Value × Unit) (fun x h nx => H129_j1 k  x.1 h nx) (fun x => [(0, some x.1)]) ?_ ?_)
  · refine CJ.seq ?_
    refine CJ.region ?_
    refine OJ.mv rfl rfl rfl (r_move rfl rfl) ?_
    refine OJ.rd rfl rfl rfl (r_nil rfl rfl H) ?_
    intro v6_51 H
    refine OJ.rd rfl rfl rfl (r_fieldAddr rfl rfl H) ?_
    intro v7_52 H
    refine OJ.rd rfl rfl rfl (r_fieldAddr rfl rfl H) ?_
    intro v8_53 H
    refine OJ.rd rfl rfl rfl (r_load rfl rfl H) ?_
    intro v9_54 H
    refine OJ.rd rfl rfl rfl (r_bin rfl rfl rfl H) ?_
    intro v10_55 H
    refine OJ.mv rfl rfl rfl (r_move rfl rfl) ?_
    refine OJ.cut (X := Option Value × Option Value × Option Value × Option Value × Option Value × Option Value × Option Value × Unit) 7 (fun x h nx => H129_g56 k  a0 v10_55 x.1 x.2.1 x.2.2.1 x.2.2.2.1 x.2.2.2.2.1 x.2.2.2.2.2.1 x.2.2.2.2.2.2.1 h nx) (fun x => [(12, x.1), (13, x.2.1), (14, x.2.2.1), (15, x.2.2.2.1), (16, x.2.2.2.2.1), (17, x.2.2.2.2.2.1), (18, x.2.2.2.2.2.2.1), (0, (some a0)), (11, (some v10_55))]) ?_ (fun next => ?_)
    · intro ⟨o12_57, o13_57, o14_57, o15_57, o16_57, o17_57, o18_57, _u⟩ h nx H
      refine OJ.rd rfl rfl rfl (r_pick rfl rfl rfl rfl H) ?_
      intro v19_58 H
      refine OJ.mv rfl rfl rfl (r_move rfl rfl) ?_
      refine OJ.cut (X := Option Value × Option Value × Option Value × Option Value × Option Value × Option Value × Unit) 6 (fun x h nx => H129_g59 k  a0 v19_58 x.1 x.2.1 x.2.2.1 x.2.2.2.1 x.2.2.2.2.1 x.2.2.2.2.2.1 h nx) (fun x => [(21, x.1), (22, x.2.1), (23, x.2.2.1), (24, x.2.2.2.1), (25, x.2.2.2.2.1), (26, x.2.2.2.2.2.1), (0, (some a0)), (20, (some v19_58))]) ?_ (fun next => ?_)
      · intro ⟨o21_60, o22_60, o23_60, o24_60, o25_60, o26_60, _u⟩ h nx H
        refine OJ.rd rfl rfl rfl (r_pick rfl rfl rfl rfl H) ?_
        intro v27_61 H
        refine OJ.fin ?_
        refine CJ.ite rfl H (fun H => ?_) (fun H => ?_)
        · cases H
        · exact CJ.skip [(0, (some a0))] (And.intro rfl True.intro) (Exists.intro (a0, ()) (And.intro rfl H))
      · rcases hG_true H with ⟨g, H⟩ | ⟨g, H⟩
        · refine OJ.gmv rfl rfl rfl g rfl rfl (r_move rfl rfl) ?_
          refine OJ.grd rfl rfl rfl g rfl rfl (r_nil rfl rfl H) ?_
          intro v22_62 H
          refine OJ.grd rfl rfl rfl g rfl rfl (r_fieldAddr rfl rfl H) ?_
          intro v23_63 H
          refine OJ.grd rfl rfl rfl g rfl rfl (r_fieldAddr rfl rfl H) ?_
          intro v24_64 H
          refine OJ.grd rfl rfl rfl g rfl rfl (r_load rfl rfl H) ?_
          intro v25_65 H
          refine OJ.gfu rfl rfl rfl g rfl rfl (r_call (args := [v25_65, (.func (.func 158) ⟨[]⟩ ⟨[]⟩)]) rfl rfl rfl (And.intro rfl (And.intro rfl True.intro)) Tryz.call157 (sim157 H)) ?_
          intro v26_66 h66 nx66 H
          exact OJ.weaken [(21, (some a0)), (22, (some v22_62)), (23, (some v23_63)), (24, (some v24_64)), (25, (some v25_65)), (26, (some v26_66)), (0, (some a0)), (20, (some v19_58))] (And.intro rfl (And.intro rfl (And.intro rfl (And.intro rfl (And.intro rfl (And.intro rfl (And.intro rfl (And.intro rfl True.intro)))))))) (next ((some a0), (some v22_62), (some v23_63), (some v24_64), (some v25_65), (some v26_66), ()) _ _ H)
        · refine OJ.no rfl rfl rfl g rfl rfl ?_
          refine OJ.no rfl rfl rfl g rfl rfl ?_
          refine OJ.no rfl rfl rfl g rfl rfl ?_
          refine OJ.no rfl rfl rfl g rfl rfl ?_
          refine OJ.no rfl rfl rfl g rfl rfl ?_
          refine OJ.no rfl rfl rfl g rfl rfl ?_
          exact OJ.weaken [(21, none), (22, none), (23, none), (24, none), (25, none), (26, none), (0, (some a0)), (20, (some v19_58))] (And.intro rfl (And.intro rfl (And.intro rfl (And.intro rfl (And.intro rfl (And.intro rfl (And.intro rfl (And.intro rfl True.intro)))))))) (next (none, none, none, none, none, none, ()) _ _ H)
    · rcases hG_true H with ⟨g, H⟩ | ⟨g, H⟩
      · refine OJ.gmv rfl rfl rfl g rfl rfl (r_move rfl rfl) ?_
        refine OJ.grd rfl rfl rfl g rfl rfl (r_nil rfl rfl H) ?_
        intro v13_67 H
        refine OJ.grd rfl rfl rfl g rfl rfl (r_fieldAddr rfl rfl H) ?_
        intro v14_68 H
        refine OJ.grd rfl rfl rfl g rfl rfl (r_fieldAddr rfl rfl H) ?_
        intro v15_69 H
        refine OJ.grd rfl rfl rfl g rfl rfl (r_load rfl rfl H) ?_
        intro v16_70 H
        refine OJ.grd rfl rfl rfl g rfl rfl (r_len (x := default) rfl rfl (And.intro rfl True.intro) rfl H) ?_
        intro v17_71 H
        refine OJ.grd rfl rfl rfl g rfl rfl (r_bin rfl rfl rfl H) ?_
        intro v18_72 H
        exact OJ.weaken [(12, (some a0)), (13, (some v13_67)), (14, (some v14_68)), (15, (some v15_69)), (16, (some v16_70)), (17, (some v17_71)), (18, (some v18_72)), (0, (some a0)), (11, (some v10_55))] (And.intro rfl (And.intro rfl (And.intro rfl (And.intro rfl (And.intro rfl (And.intro rfl (And.intro rfl (And.intro rfl (And.intro rfl True.intro))))))))) (next ((some a0), (some v13_67), (some v14_68), (some v15_69), (some v16_70), (some v17_71), (some v18_72), ()) _ _ H)
      · refine OJ.no rfl rfl rfl g rfl rfl ?_
        refine OJ.no rfl rfl rfl g rfl rfl ?_
        refine OJ.no rfl rfl rfl g rfl rfl ?_
        refine OJ.no rfl rfl rfl g rfl rfl ?_
        refine OJ.no rfl rfl rfl g rfl rfl ?_
        refine OJ.no rfl rfl rfl g rfl rfl ?_
        refine OJ.no rfl rfl rfl g rfl rfl ?_
        exact OJ.weaken [(12, none), (13, none), (14, none), (15, none), (16, none), (17, none), (18, none), (0, (some a0)), (11, (some v10_55))] (And.intro rfl (And.intro rfl (And.intro rfl (And.intro rfl (And.intro rfl (And.intro rfl (And.intro rfl (And.intro rfl (And.intro rfl True.intro))))))))) (next (none, none, none, none, none, none, none, ()) _ _ H)
  · intro ⟨a0_2, _u⟩ h nx H
    refine CJ.seq (CJ.cut (X := Value × Value × Value × Unit) (fun x h nx => H129_j3 k  x.1 x.2.1 x.2.2.1 h nx) (fun x => [(0, some x.1), (2, some x.2.1), (3, some x.2.2.1)]) ?_ ?_)
    · refine DJ.hm [0, 1, 3, 7, 15, 0, 32, 96, 224, 480, 1023, 2047, 4095, 4095, 0, 24575, 65535] (by decide +kernel) ?_
      intro hm29
      refine DJ.mv 0 [(0, (some a0_2))] (a_move rfl rfl) ?_
      intro S29_0
      refine DJ.any 1 [(29, (some a0_2))] (a_nil rfl rfl H) ?_
      intro v30_30 H S29_1
      refine DJ.any 2 [(30, (some v30_30))] (a_fieldAddr rfl rfl H) ?_
      intro v31_31 H S29_2
      refine DJ.rd 3 [(31, (some v31_31))] h nx (r_load rfl rfl H) ?_
      intro v32_32 H S29_3
      refine DJ.mv 5 [(0, (some a0_2))] (a_move rfl rfl) ?_
      intro S29_5
      refine DJ.any 6 [(34, (some a0_2))] (a_nil rfl rfl H) ?_
      intro v35_33 H S29_6
      refine DJ.any 7 [(35, (some v35_33))] (a_fieldAddr rfl rfl H) ?_
      intro v36_34 H S29_7
      refine DJ.any 8 [(36, (some v36_34))] (a_fieldAddr rfl rfl H) ?_
      intro v37_35 H S29_8
      refine DJ.rd 9 [(37, (some v37_35))] h nx (r_load rfl rfl H) ?_
      intro v38_36 H S29_9
      refine DJ.fr 14 [] h nx (f_alloc rfl H) ?_
      intro v2_37 h37 nx37 H E29_14 W29_14 S29_14
      refine DJ.rd 3 [(31, (some v31_31))] h37 nx37 (r_load rfl rfl H) ?_
      intro v32_39 H Q38
      obtain ⟨q38, H⟩ := hEq_true H
      refine DJ.rd 9 [(37, (some v37_35))] h37 nx37 (r_load rfl rfl H) ?_
      intro v38_41 H Q40
      obtain ⟨q40, H⟩ := hEq_true H
      refine DJ.fu 4 [(32, (some v32_32))] h37 nx37 (r_call (args := [v32_32]) rfl rfl rfl (And.intro rfl True.intro) Tryz.call159 (sim159 H)) ?_
      intro v33_42 h42 nx42 H S29_4
      have I29_4 := S29_4.1
      refine DJ.rd 9 [(37, (some v37_35))] h42 nx42 (r_load rfl rfl H) ?_
      intro v38_44 H Q43
      obtain ⟨q43, H⟩ := hEq_true H
      obtain ⟨q45, H⟩ := hSame_true H
      refine DJ.fu 10 [(33, (some v33_42)), (38, (some v38_36))] h42 nx42 (r_call (args := [v33_42, v38_36]) rfl rfl rfl (And.intro rfl (And.intro rfl True.intro)) Tryz.call127 (sim127 H)) ?_
      intro v39_46 h46 nx46 H S29_10
      have I29_10 := S29_10.1
      refine DJ.mv 11 [(39, (some v39_46))] (a_move rfl rfl) ?_
      intro S29_11
      refine DJ.any 12 [(28, (some v39_46))] (a_extract rfl rfl H) ?_
      intro v40_47 H S29_12
      refine DJ.any 13 [(28, (some v39_46))] (a_extract rfl rfl H) ?_
      intro v41_48 H S29_13
      obtain ⟨q49, H⟩ := hSame_true H
      refine DJ.wr 15 [(2, (some v2_37)), (40, (some v40_47))] h46 nx46 (r_store rfl rfl rfl H) ?_
      intro h50 H S29_15
      have I29_15 := S29_15.1
      refine DJ.mv 16 [(41, (some v41_48))] (a_assign rfl rfl) ?_
      intro S29_16
      exact CJ.draw1 [(some a0_2), (some v30_30), (some v31_31), (some v32_32), (some v33_42), (some a0_2), (some v35_33), (some v36_34), (some v37_35), (some v38_36), (some v39_46), (some v39_46), (some v40_47), (some v41_48), (some v2_37), none, (some v41_48)] [4, 10, 15] [(h37, nx37), (h42, nx42), (h46, nx46), (h50, nx46)] [(14, nx)] [0, 1, 2, 3, 4, 5, 6, 7, 8, 9, 10, 11, 12, 13, 14, 15, 16] [0, 1, 2, 3, 4, 5, 6, 7, 8, 9, 10, 11, 12, 13, 14, 15, 16] [0, 1, 2, 3, 4, 5, 6, 7, 8, 9, 10, 11, 12, 14, 15, 13, 16] (by decide +kernel) (And.intro (F_any (Ti := [(0, (some a0_2))]) hm29 [(0, none)] (by decide +kernel) (And.intro rfl (And.intro rfl True.intro)) (guard_no rfl) rfl rfl S29_0) (And.intro (F_any (Ti := [(29, (some a0_2))]) hm29 [(29, some 0)] (by decide +kernel) (And.intro rfl (And.intro rfl True.intro)) (guard_no rfl) rfl rfl S29_1) (And.intro (F_any (Ti := [(30, (some v30_30))]) hm29 [(30, some 1)] (by decide +kernel) (And.intro rfl (And.intro rfl True.intro)) (guard_no rfl) rfl rfl S29_2) (And.intro (F_read (Ti := [(31, (some v31_31))]) hm29 [(31, some 2)] (by decide +kernel) (And.intro rfl (And.intro rfl True.intro)) (guard_no rfl) rfl rfl 0 1 (by decide +kernel) (And.intro (opR_eq q38 Q38) True.intro)) (And.intro (F_eff (Ti := [(32, (some v32_32))]) hm29 [(32, some 3)] (by decide +kernel) (And.intro rfl (And.intro rfl True.intro)) (guard_no rfl) rfl 0 rfl (by decide +kernel) S29_4 (Grow.refl _ _) (show nx ≤ nx37 by omega) (And.intro (show nx < nx37 ∨ nx42 ≤ nx by omega) True.intro)) (And.intro (F_any (Ti := [(0, (some a0_2))]) hm29 [(0, none)] (by decide +kernel) (And.intro rfl (And.intro rfl True.intro)) (guard_no rfl) rfl rfl S29_5) (And.intro (F_any (Ti := [(34, (some a0_2))]) hm29 [(34, some 5)] (by decide +kernel) (And.intro rfl (And.intro rfl True.intro)) (guard_no rfl) rfl rfl S29_6) (And.intro (F_any (Ti := [(35, (some v35_33))]) hm29 [(35, some 6)] (by decide +kernel) (And.intro rfl (And.intro rfl True.intro)) (guard_no rfl) rfl rfl S29_7) (And.intro (F_any (Ti := [(36, (some v36_34))]) hm29 [(36, some 7)] (by decide +kernel) (And.intro rfl (And.intro rfl True.intro)) (guard_no rfl) rfl rfl S29_8) (And.intro (F_read (Ti := [(37, (some v37_35))]) hm29 [(37, some 8)] (by decide +kernel) (And.intro rfl (And.intro rfl True.intro)) (guard_no rfl) rfl rfl 0 2 (by decide +kernel) (And.intro (opR_eq q40 Q40) (And.intro (opR_eq q43 Q43) True.intro))) (And.intro (F_eff (Ti := [(33, (some v33_42)), (38, (some v38_36))]) hm29 [(33, some 4), (38, some 9)] (by decide +kernel) (And.intro rfl (And.intro rfl (And.intro rfl (And.intro rfl True.intro)))) (guard_no rfl) rfl 1 rfl (by decide +kernel) S29_10 (Grow.refl _ _) (show nx ≤ nx42 by omega) (And.intro (show nx < nx42 ∨ nx46 ≤ nx by omega) True.intro)) (And.intro (F_any (Ti := [(39, (some v39_46))]) hm29 [(39, some 10)] (by decide +kernel) (And.intro rfl (And.intro rfl True.intro)) (guard_no rfl) rfl rfl S29_11) (And.intro (F_any (Ti := [(28, (some v39_46))]) hm29 [(28, some 11)] (by decide +kernel) (And.intro rfl (And.intro rfl True.intro)) (guard_no rfl) rfl rfl S29_12) (And.intro (F_any (Ti := [(28, (some v39_46))]) hm29 [(28, some 11)] (by decide +kernel) (And.intro rfl (And.intro rfl True.intro)) (guard_no rfl) rfl rfl S29_13) (And.intro (F_fresh (Ti := []) hm29 [] (by decide +kernel) True.intro (guard_no rfl) rfl nx rfl (by omega) (And.intro (fun _ => rfl) True.intro) 0 3 (by decide +kernel) (And.intro (S29_14 _ _ (show nx < nx37 by omega) rfl) (And.intro (S29_14 _ _ (show nx < nx42 by omega) q45) (And.intro (S29_14 _ _ (show nx < nx46 by omega) q49) True.intro)))) (And.intro (F_eff (Ti := [(2, (some v2_37)), (40, (some v40_47))]) hm29 [(2, some 14), (40, some 12)] (by decide +kernel) (And.intro rfl (And.intro rfl (And.intro rfl (And.intro rfl True.intro)))) (guard_no rfl) rfl 2 rfl (by decide +kernel) S29_15 (Grow.refl _ _) (show nx ≤ nx46 by omega) (And.intro (show nx < nx46 ∨ nx46 ≤ nx by omega) True.intro)) (And.intro (F_any (Ti := [(41, (some v41_48))]) hm29 [(41, some 13)] (by decide +kernel) (And.intro rfl (And.intro rfl True.intro)) (guard_no rfl) rfl rfl S29_16) True.intro))))))))))))))))) rfl (And.intro (by omega) (And.intro (by omega) (And.intro (by omega) (And.intro (by omega) True.intro)))) (And.intro (by omega) True.intro) (Grow.trans (Grow.refl _ _) W29_14) [(0, none), (2, some 14), (3, some 16)] [(0, (some a0_2)), (2, (some v2_37)), (3, (some v41_48))] (by decide +kernel) (And.intro rfl (And.intro rfl (And.intro rfl (And.intro rfl (And.intro rfl (And.intro rfl True.intro)))))) rfl (Exists.intro (a0_2, v2_37, v41_48, ()) (And.intro rfl H))
    · intro ⟨a0_4, a2_4, a3_4, _u⟩ h nx H
      refine CJ.seq (CJ.cut (X := Value × Value × Unit) (fun x h nx => H129_j5 k  x.1 x.2.1 h nx) (fun x => [(0, some x.1), (2, some x.2.1)]) ?_ ?_)
      · refine CJ.seq ?_
        refine CJ.region ?_
        refine OJ.mv rfl rfl rfl (r_move rfl rfl) ?_
        refine OJ.rd rfl rfl rfl (r_bin rfl rfl rfl H) ?_
        intro v43_28 H
        refine OJ.fin ?_
        refine CJ.ite rfl H (fun H => ?_) (fun H => ?_)
        · cases H
        · exact CJ.skip [(0, (some a0_4)), (2, (some a2_4))] (And.intro rfl (And.intro rfl True.intro)) (Exists.intro (a0_4, a2_4, ()) (And.intro rfl H))
      · intro ⟨a0_6, a2_6, _u⟩ h nx H
        refine CJ.seq (CJ.cut (X := Value × Value × Unit) (fun x h nx => H129_j7 k  x.1 x.2.1 h nx) (fun x => [(0, some x.1), (2, some x.2.1)]) ?_ ?_)
        · refine CJ.seq ?_
          refine CJ.region ?_
          refine OJ.mv rfl rfl rfl (r_move rfl rfl) ?_
          refine OJ.rd rfl rfl rfl (r_nil rfl rfl H) ?_
          intro v50_23 H
          refine OJ.rd rfl rfl rfl (r_fieldAddr rfl rfl H) ?_
          intro v51_24 H
          refine OJ.rd rfl rfl rfl (r_fieldAddr rfl rfl H) ?_
          intro v52_25 H
          refine OJ.rd rfl rfl rfl (r_load rfl rfl H) ?_
          intro v53_26 H
          refine OJ.rd rfl rfl rfl (r_bin rfl rfl rfl H) ?_
          intro v54_27 H
          refine OJ.fin ?_
          refine CJ.ite rfl H (fun H => ?_) (fun H => ?_)
          · cases H
          · exact CJ.skip [(0, (some a0_6)), (2, (some a2_6))] (And.intro rfl (And.intro rfl True.intro)) (Exists.intro (a0_6, a2_6, ()) (And.intro rfl H))
        · intro ⟨a0_8, a2_8, _u⟩ h nx H
          refine CJ.seq ?_
          refine CJ.region ?_
          refine OJ.rd rfl rfl rfl (r_load rfl rfl H) ?_
          intro v74_9 H
          refine OJ.fu rfl rfl rfl (r_call (args := [v74_9]) rfl rfl rfl (And.intro rfl True.intro) Tryz.call160 (sim160 H)) ?_
          intro v75_10 h10 nx10 H
          refine OJ.mv rfl rfl rfl (r_move rfl rfl) ?_
          refine OJ.rd rfl rfl rfl (r_extract rfl rfl H) ?_
          intro v76_11 H
          refine OJ.rd rfl rfl rfl (r_extract rfl rfl H) ?_
          intro v77_12 H
          refine OJ.fu rfl rfl rfl (r_alloc1 rfl H) ?_
          intro v4_13 h13 nx13 H
          refine OJ.wr rfl rfl (r_store rfl rfl rfl H) ?_
          intro h14 H
          refine OJ.mv rfl rfl rfl (r_assign rfl rfl) ?_
          refine OJ.fin ?_
          refine CJ.seq ?_
          refine CJ.region ?_
          refine OJ.mv rfl rfl rfl (r_move rfl rfl) ?_
          refine OJ.rd rfl rfl rfl (r_nil rfl rfl H) ?_
          intro v79_15 H
          refine OJ.rd rfl rfl rfl (r_fieldAddr rfl rfl H) ?_
          intro v80_16 H
          refine OJ.rd rfl rfl rfl (r_fieldAddr rfl rfl H) ?_
          intro v81_17 H
          refine OJ.wr rfl rfl (r_store rfl rfl rfl H) ?_
          intro h18 H
          refine OJ.fin ?_
          refine CJ.seq ?_
          refine CJ.region ?_
          refine OJ.mv rfl rfl rfl (r_move rfl rfl) ?_
          refine OJ.rd rfl rfl rfl (r_bin rfl rfl rfl H) ?_
          intro v83_19 H
          refine OJ.fin ?_
          refine CJ.ite rfl H (fun H => ?_) (fun H => ?_)
          · refine CJ.region ?_
            refine OJ.mv rfl rfl rfl (r_move rfl rfl) ?_
            refine OJ.rd rfl rfl rfl (r_load rfl rfl H) ?_
            intro v85_20 H
            refine OJ.rd rfl rfl rfl (r_load rfl rfl H) ?_
            intro v86_21 H
            refine OJ.fu rfl rfl rfl (r_call (args := [a0_8, v85_20, v86_21]) rfl rfl rfl (And.intro rfl (And.intro rfl (And.intro rfl True.intro))) Tryz.call130 (sim130 H)) ?_
            intro v87_22 h22 nx22 H
            refine OJ.fin ?_
            exact ret_many (vs := []) [] (Or.inl rfl) rfl True.intro H
          · cases H

/-! 124 -/
noncomputable def H124_j21 (k : KV)  (a0_22 : Value) (h : Heap) (nx : Nat) : Bool :=
  H129 a0_22 h nx fun v106_23 h23 nx23 =>
  hRet [] h23 nx23 k
noncomputable def H124_j32 (k : KV) (ih29 : Value → Value → Value → Heap → Nat → Bool)  (h : Heap) (nx : Nat) : Bool :=
  false
noncomputable def H124_l29 (k : KV)  (n : Nat) : Value → Value → Value → Heap → Nat → Bool :=
  Nat.rec (motive := fun _ => Value → Value → Value → Heap → Nat → Bool) (fun _ _ _ _ _ => false) (fun _ ih29 a0_30 a77_30 a78_30 h nx => binK Tryz.prog .lss 3 (.tmp 78) (.tmp 77) a78_30 a77_30 fun v79_31 =>
  hIf v79_31 (fun _ => false) (fun _ => H124_j21 k  a0_30 h nx)) n
noncomputable def H124_j19 (k : KV)  (a0_20 : Value) (h : Heap) (nx : Nat) : Bool :=
  hNil a0_20 fun v73_24 =>
  hFieldAddr Tryz.prog 176 v73_24 0 fun v74_25 =>
  hFieldAddr Tryz.prog 36 v74_25 4 fun v75_26 =>
  loadK Tryz.prog 30 v75_26 h fun v76_27 =>
  lenK Tryz.prog 30 v76_27 h fun v77_28 =>
  H124_l29 k  200000 a0_20 v77_28 (.int .i64 (.ofNat 0)) h nx
noncomputable def H124_j42 (k : KV) (ih39 : Value → Value → Value → Heap → Nat → Bool)  (h : Heap) (nx : Nat) : Bool :=
  false
noncomputable def H124_l39 (k : KV)  (n : Nat) : Value → Value → Value → Heap → Nat → Bool :=
  Nat.rec (motive := fun _ => Value → Value → Value → Heap → Nat → Bool) (fun _ _ _ _ _ => false) (fun _ ih39 a0_40 a61_40 a62_40 h nx => binK Tryz.prog .lss 3 (.tmp 62) (.tmp 61) a62_40 a61_40 fun v63_41 =>
  hIf v63_41 (fun _ => false) (fun _ => H124_j19 k  a0_40 h nx)) n
noncomputable def H124_j2 (k : KV)  (a0_3 : Value) (a2_3 : Value) (h : Heap) (nx : Nat) : Bool :=
  hBuild Tryz.prog 34 [] fun v42_4 =>
  hBuild Tryz.prog 34 [] fun v43_5 =>
  H148 a0_3 a2_3 h nx fun v46_6 h6 nx6 =>
  hNil a0_3 fun v47_7 =>
  hFieldAddr Tryz.prog 176 v47_7 0 fun v48_8 =>
  hFieldAddr Tryz.prog 36 v48_8 6 fun v49_9 =>
  storeK Tryz.prog 34 v49_9 v42_4 h6 fun h10 =>
  hNil a0_3 fun v50_11 =>
  hFieldAddr Tryz.prog 176 v50_11 0 fun v51_12 =>
  hFieldAddr Tryz.prog 36 v51_12 8 fun v52_13 =>
  storeK Tryz.prog 34 v52_13 v43_5 h10 fun h14 =>
  hNil a0_3 fun v53_15 =>
  hFieldAddr Tryz.prog 176 v53_15 0 fun v54_16 =>
  hFieldAddr Tryz.prog 36 v54_16 5 fun v55_17 =>
  storeK Tryz.prog 31 v55_17 v46_6 h14 fun h18 =>
  hNil a0_3 fun v57_34 =>
  hFieldAddr Tryz.prog 176 v57_34 0 fun v58_35 =>
  hFieldAddr Tryz.prog 36 v58_35 5 fun v59_36 =>
  loadK Tryz.prog 31 v59_36 h18 fun v60_37 =>
  lenK Tryz.prog 31 v60_37 h18 fun v61_38 =>
  H124_l39 k  200000 a0_3 v61_38 (.int .i64 (.ofNat 0)) h18 nx6
noncomputable def H124 (a0 : Value) (a1 : Value) (a2 : Value) (h : Heap) (nx : Nat) (k : KV) : Bool :=
  hBox a1 h nx fun v4_1 h1 nx1 =>
  loadK Tryz.prog 29 v4_1 h1 fun v17_45 =>
  hNil a0 fun v19_46 =>
  hFieldAddr Tryz.prog 176 v19_46 0 fun v20_47 =>
  hFieldAddr Tryz.prog 36 v20_47 2 fun v21_48 =>
  loadK Tryz.prog 3 v21_48 h1 fun v22_49 =>
  hFieldAddr Tryz.prog 29 v4_1 0 fun v23_50 =>
  loadK Tryz.prog 3 v23_50 h1 fun v24_51 =>
  hMax Tryz.prog [3, 3] [v22_49, v24_51] fun v25_52 =>
  hNil a0 fun v27_53 =>
  hFieldAddr Tryz.prog 176 v27_53 0 fun v28_54 =>
  hFieldAddr Tryz.prog 36 v28_54 1 fun v29_55 =>
  storeK Tryz.prog 29 v29_55 v17_45 h1 fun h56 =>
  hNil a0 fun v30_57 =>
  hFieldAddr Tryz.prog 176 v30_57 0 fun v31_58 =>
  hFieldAddr Tryz.prog 36 v31_58 2 fun v32_59 =>
  loadK Tryz.prog 3 v23_50 h56 fun v24_61 =>
  hEq v24_61 v24_51 fun _ => storeK Tryz.prog 3 v32_59 v25_52 h56 fun h62 =>
  hNil a0 fun v33_63 =>
  hFieldAddr Tryz.prog 176 v33_63 0 fun v34_64 =>
  hFieldAddr Tryz.prog 36 v34_64 3 fun v35_65 =>
  storeK Tryz.prog 3 v35_65 a2 h62 fun h66 =>
  hNil a0 fun v36_67 =>
  hFieldAddr Tryz.prog 176 v36_67 0 fun v37_68 =>
  hFieldAddr Tryz.prog 36 v37_68 7 fun v38_69 =>
  storeK Tryz.prog 3 v38_69 (.int .i64 (.ofNat 1)) h66 fun h70 =>
  H124_j2 k  a0 a2 h70 nx1
theorem sim124 {a0 a1 a2 : Value} {h : Heap} {nx : Nat} {k : KV} (H : H124 a0 a1 a2 h nx k = true) : ∃ v h' nx', k v h' nx' = true ∧ CallSim Tryz.prog 124 [a0, a1, a2] h nx v h' nx' := by
  refine fn_rule Tryz.func124 rfl rfl ?_
  refine CJ.seq ?_
  refine CJ.region ?_
  refine OJ.fu rfl rfl rfl (r_box rfl rfl H) ?_
  intro v4_1 h1 nx1 H
  refine OJ.fin ?_
  refine CJ.seq (CJ.cut (X := Value × Value × Unit) (fun x h nx => H124_j2 k  x.1 x.2.1 h nx) (fun x => [(0, some x.1), (2, some x.2.1)]) ?_ ?_)
  · refine DJ.hm [0, 0, 0, 0, 0, 0, 32, 96, 224, 480, 0, 1024, 4064, 0, 1009, 17393, 50161, 115697, 253939, 516083, 1040371, 2088947, 4194295, 8388599, 16777207, 33554423, 67108863, 134217727, 268435455, 536870911] (by decide +kernel) ?_
    intro hm44
    refine DJ.mv 0 [(0, (some a0))] (a_move rfl rfl) ?_
    intro S44_0
    refine DJ.mv 1 [(0, (some a0))] (a_move rfl rfl) ?_
    intro S44_1
    refine DJ.mv 2 [(0, (some a0))] (a_move rfl rfl) ?_
    intro S44_2
    refine DJ.mv 3 [(0, (some a0))] (a_move rfl rfl) ?_
    intro S44_3
    refine DJ.rd 4 [(4, (some v4_1))] h1 nx1 (r_load rfl rfl H) ?_
    intro v17_45 H S44_4
    refine DJ.mv 5 [(0, (some a0))] (a_move rfl rfl) ?_
    intro S44_5
    refine DJ.any 6 [(18, (some a0))] (a_nil rfl rfl H) ?_
    intro v19_46 H S44_6
    refine DJ.any 7 [(19, (some v19_46))] (a_fieldAddr rfl rfl H) ?_
    intro v20_47 H S44_7
    refine DJ.any 8 [(20, (some v20_47))] (a_fieldAddr rfl rfl H) ?_
    intro v21_48 H S44_8
    refine DJ.rd 9 [(21, (some v21_48))] h1 nx1 (r_load rfl rfl H) ?_
    intro v22_49 H S44_9
    refine DJ.any 10 [(4, (some v4_1))] (a_fieldAddr rfl rfl H) ?_
    intro v23_50 H S44_10
    refine DJ.rd 11 [(23, (some v23_50))] h1 nx1 (r_load rfl rfl H) ?_
    intro v24_51 H S44_11
    refine DJ.any 12 [(22, (some v22_49)), (24, (some v24_51))] (a_max (xs := [v22_49, v24_51]) rfl rfl (And.intro rfl (And.intro rfl True.intro)) rfl H) ?_
    intro v25_52 H S44_12
    refine DJ.mv 13 [(2, (some a2))] (a_move rfl rfl) ?_
    intro S44_13
    refine DJ.any 14 [(13, (some a0))] (a_nil rfl rfl H) ?_
    intro v27_53 H S44_14
    refine DJ.any 15 [(27, (some v27_53))] (a_fieldAddr rfl rfl H) ?_
    intro v28_54 H S44_15
    refine DJ.any 16 [(28, (some v28_54))] (a_fieldAddr rfl rfl H) ?_
    intro v29_55 H S44_16
    refine DJ.wr 17 [(17, (some v17_45)), (29, (some v29_55))] h1 nx1 (r_store rfl rfl rfl H) ?_
    intro h56 H S44_17
    have I44_17 := S44_17.1
    refine DJ.any 18 [(14, (some a0))] (a_nil rfl rfl H) ?_
    intro v30_57 H S44_18
    refine DJ.any 19 [(30, (some v30_57))] (a_fieldAddr rfl rfl H) ?_
    intro v31_58 H S44_19
    refine DJ.any 20 [(31, (some v31_58))] (a_fieldAddr rfl rfl H) ?_
    intro v32_59 H S44_20
    refine DJ.rd 11 [(23, (some v23_50))] h56 nx1 (r_load rfl rfl H) ?_
    intro v24_61 H Q60
    obtain ⟨q60, H⟩ := hEq_true H
    refine DJ.wr 21 [(25, (some v25_52)), (32, (some v32_59))] h56 nx1 (r_store rfl rfl rfl H) ?_
    intro h62 H S44_21
    have I44_21 := S44_21.1
    refine DJ.any 22 [(15, (some a0))] (a_nil rfl rfl H) ?_
    intro v33_63 H S44_22
    refine DJ.any 23 [(33, (some v33_63))] (a_fieldAddr rfl rfl H) ?_
    intro v34_64 H S44_23
    refine DJ.any 24 [(34, (some v34_64))] (a_fieldAddr rfl rfl H) ?_
    intro v35_65 H S44_24
    refine DJ.wr 25 [(26, (some a2)), (35, (some v35_65))] h62 nx1 (r_store rfl rfl rfl H) ?_
    intro h66 H S44_25
    have I44_25 := S44_25.1
    refine DJ.any 26 [(16, (some a0))] (a_nil rfl rfl H) ?_
    intro v36_67 H S44_26
    refine DJ.any 27 [(36, (some v36_67))] (a_fieldAddr rfl rfl H) ?_
    intro v37_68 H S44_27
    refine DJ.any 28 [(37, (some v37_68))] (a_fieldAddr rfl rfl H) ?_
    intro v38_69 H S44_28
    refine DJ.wr 29 [(38, (some v38_69))] h66 nx1 (r_store rfl rfl rfl H) ?_
    intro h70 H S44_29
    have I44_29 := S44_29.1
    exact CJ.draw1 [(some a0), (some a0), (some a0), (some a0), (some v17_45), (some a0), (some v19_46), (some v20_47), (some v21_48), (some v22_49), (some v23_50), (some v24_51), (some v25_52), (some a2), (some v27_53), (some v28_54), (some v29_55), none, (some v30_57), (some v31_58), (some v32_59), none, (some v33_63), (some v34_64), (some v35_65), none, (some v36_67), (some v37_68), (some v38_69), none] [17, 21, 25, 29] [(h1, nx1), (h56, nx1), (h62, nx1), (h66, nx1), (h70, nx1)] [] [0, 1, 2, 3, 4, 5, 6, 7, 8, 9, 10, 11, 12, 13, 14, 15, 16, 17, 18, 19, 20, 21, 22, 23, 24, 25, 26, 27, 28, 29] [0, 1, 2, 3, 4, 5, 6, 7, 8, 9, 10, 11, 12, 13, 14, 15, 16, 17, 18, 19, 20, 21, 22, 23, 24, 25, 26, 27, 28, 29] [0, 4, 5, 6, 7, 8, 9, 10, 11, 12, 14, 15, 16, 17, 1, 18, 19, 20, 21, 2, 13, 22, 23, 24, 25, 3, 26, 27, 28, 29] (by decide +kernel) (And.intro (F_any (Ti := [(0, (some a0))]) hm44 [(0, none)] (by decide +kernel) (And.intro rfl (And.intro rfl True.intro)) (guard_no rfl) rfl rfl S44_0) (And.intro (F_any (Ti := [(0, (some a0))]) hm44 [(0, none)] (by decide +kernel) (And.intro rfl (And.intro rfl True.intro)) (guard_no rfl) rfl rfl S44_1) (And.intro (F_any (Ti := [(0, (some a0))]) hm44 [(0, none)] (by decide +kernel) (And.intro rfl (And.intro rfl True.intro)) (guard_no rfl) rfl rfl S44_2) (And.intro (F_any (Ti := [(0, (some a0))]) hm44 [(0, none)] (by decide +kernel) (And.intro rfl (And.intro rfl True.intro)) (guard_no rfl) rfl rfl S44_3) (And.intro (F_read (Ti := [(4, (some v4_1))]) hm44 [(4, none)] (by decide +kernel) (And.intro rfl (And.intro rfl True.intro)) (guard_no rfl) rfl rfl 0 1 (by decide +kernel) (And.intro S44_4 True.intro)) (And.intro (F_any (Ti := [(0, (some a0))]) hm44 [(0, none)] (by decide +kernel) (And.intro rfl (And.intro rfl True.intro)) (guard_no rfl) rfl rfl S44_5) (And.intro (F_any (Ti := [(18, (some a0))]) hm44 [(18, some 5)] (by decide +kernel) (And.intro rfl (And.intro rfl True.intro)) (guard_no rfl) rfl rfl S44_6) (And.intro (F_any (Ti := [(19, (some v19_46))]) hm44 [(19, some 6)] (by decide +kernel) (And.intro rfl (And.intro rfl True.intro)) (guard_no rfl) rfl rfl S44_7) (And.intro (F_any (Ti := [(20, (some v20_47))]) hm44 [(20, some 7)] (by decide +kernel) (And.intro rfl (And.intro rfl True.intro)) (guard_no rfl) rfl rfl S44_8) (And.intro (F_read (Ti := [(21, (some v21_48))]) hm44 [(21, some 8)] (by decide +kernel) (And.intro rfl (And.intro rfl True.intro)) (guard_no rfl) rfl rfl 0 1 (by decide +kernel) (And.intro S44_9 True.intro)) (And.intro (F_any (Ti := [(4, (some v4_1))]) hm44 [(4, none)] (by decide +kernel) (And.intro rfl (And.intro rfl True.intro)) (guard_no rfl) rfl rfl S44_10) (And.intro (F_read (Ti := [(23, (some v23_50))]) hm44 [(23, some 10)] (by decide +kernel) (And.intro rfl (And.intro rfl True.intro)) (guard_no rfl) rfl rfl 0 2 (by decide +kernel) (And.intro S44_11 (And.intro (opR_eq q60 Q60) True.intro))) (And.intro (F_any (Ti := [(22, (some v22_49)), (24, (some v24_51))]) hm44 [(22, some 9), (24, some 11)] (by decide +kernel) (And.intro rfl (And.intro rfl (And.intro rfl (And.intro rfl True.intro)))) (guard_no rfl) rfl rfl S44_12) (And.intro (F_any (Ti := [(2, (some a2))]) hm44 [(2, none)] (by decide +kernel) (And.intro rfl (And.intro rfl True.intro)) (guard_no rfl) rfl rfl S44_13) (And.intro (F_any (Ti := [(13, (some a0))]) hm44 [(13, some 0)] (by decide +kernel) (And.intro rfl (And.intro rfl True.intro)) (guard_no rfl) rfl rfl S44_14) (And.intro (F_any (Ti := [(27, (some v27_53))]) hm44 [(27, some 14)] (by decide +kernel) (And.intro rfl (And.intro rfl True.intro)) (guard_no rfl) rfl rfl S44_15) (And.intro (F_any (Ti := [(28, (some v28_54))]) hm44 [(28, some 15)] (by decide +kernel) (And.intro rfl (And.intro rfl True.intro)) (guard_no rfl) rfl rfl S44_16) (And.intro (F_eff (Ti := [(17, (some v17_45)), (29, (some v29_55))]) hm44 [(17, some 4), (29, some 16)] (by decide +kernel) (And.intro rfl (And.intro rfl (And.intro rfl (And.intro rfl True.intro)))) (guard_no rfl) rfl 0 rfl (by decide +kernel) S44_17 (Grow.refl _ _) (show nx1 ≤ nx1 by omega) True.intro) (And.intro (F_any (Ti := [(14, (some a0))]) hm44 [(14, some 1)] (by decide +kernel) (And.intro rfl (And.intro rfl True.intro)) (guard_no rfl) rfl rfl S44_18) (And.intro (F_any (Ti := [(30, (some v30_57))]) hm44 [(30, some 18)] (by decide +kernel) (And.intro rfl (And.intro rfl True.intro)) (guard_no rfl) rfl rfl S44_19) (And.intro (F_any (Ti := [(31, (some v31_58))]) hm44 [(31, some 19)] (by decide +kernel) (And.intro rfl (And.intro rfl True.intro)) (guard_no rfl) rfl rfl S44_20) (And.intro (F_eff (Ti := [(25, (some v25_52)), (32, (some v32_59))]) hm44 [(25, some 12), (32, some 20)] (by decide +kernel) (And.intro rfl (And.intro rfl (And.intro rfl (And.intro rfl True.intro)))) (guard_no rfl) rfl 1 rfl (by decide +kernel) S44_21 (Grow.refl _ _) (show nx1 ≤ nx1 by omega) True.intro) (And.intro (F_any (Ti := [(15, (some a0))]) hm44 [(15, some 2)] (by decide +kernel) (And.intro rfl (And.intro rfl True.intro)) (guard_no rfl) rfl rfl S44_22) (And.intro (F_any (Ti := [(33, (some v33_63))]) hm44 [(33, some 22)] (by decide +kernel) (And.intro rfl (And.intro rfl True.intro)) (guard_no rfl) rfl rfl S44_23) (And.intro (F_any (Ti := [(34, (some v34_64))]) hm44 [(34, some 23)] (by decide +kernel) (And.intro rfl (And.intro rfl True.intro)) (guard_no rfl) rfl rfl S44_24) (And.intro (F_eff (Ti := [(26, (some a2)), (35, (some v35_65))]) hm44 [(26, some 13), (35, some 24)] (by decide +kernel) (And.intro rfl (And.intro rfl (And.intro rfl (And.intro rfl True.intro)))) (guard_no rfl) rfl 2 rfl (by decide +kernel) S44_25 (Grow.refl _ _) (show nx1 ≤ nx1 by omega) True.intro) (And.intro (F_any (Ti := [(16, (some a0))]) hm44 [(16, some 3)] (by decide +kernel) (And.intro rfl (And.intro rfl True.intro)) (guard_no rfl) rfl rfl S44_26) (And.intro (F_any (Ti := [(36, (some v36_67))]) hm44 [(36, some 26)] (by decide +kernel) (And.intro rfl (And.intro rfl True.intro)) (guard_no rfl) rfl rfl S44_27) (And.intro (F_any (Ti := [(37, (some v37_68))]) hm44 [(37, some 27)] (by decide +kernel) (And.intro rfl (And.intro rfl True.intro)) (guard_no rfl) rfl rfl S44_28) (And.intro (F_eff (Ti := [(38, (some v38_69))]) hm44 [(38, some 28)] (by decide +kernel) (And.intro rfl (And.intro rfl True.intro)) (guard_no rfl) rfl 3 rfl (by decide +kernel) S44_29 (Grow.refl _ _) (show nx1 ≤ nx1 by omega) True.intro) True.intro)))))))))))))))))))))))))))))) rfl (And.intro (by omega) (And.intro (by omega) (And.intro (by omega) (And.intro (by omega) (And.intro (by omega) True.intro))))) True.intro (Grow.refl _ _) [(0, none), (2, none)] [(0, (some a0)), (2, (some a2))] (by decide +kernel) (And.intro rfl (And.intro rfl (And.intro rfl (And.intro rfl True.intro)))) rfl (Exists.intro (a0, a2, ()) (And.intro rfl H))
  · intro ⟨a0_3, a2_3, _u⟩ h nx H
    refine CJ.seq ?_
    refine CJ.region ?_
    refine OJ.mv rfl rfl rfl (r_move rfl rfl) ?_
    refine OJ.mv rfl rfl rfl (r_move rfl rfl) ?_
    refine OJ.mv rfl rfl rfl (r_move rfl rfl) ?_
    refine OJ.rd rfl rfl rfl (r_build (vs := []) rfl True.intro H) ?_
    intro v42_4 H
    refine OJ.rd rfl rfl rfl (r_build (vs := []) rfl True.intro H) ?_
    intro v43_5 H
    refine OJ.mv rfl rfl rfl (r_move rfl rfl) ?_
    refine OJ.mv rfl rfl rfl (r_move rfl rfl) ?_
    refine OJ.fu rfl rfl rfl (r_call (args := [a0_3, a2_3]) rfl rfl rfl (And.intro rfl (And.intro rfl True.intro)) Tryz.call148 (sim148 H)) ?_
    intro v46_6 h6 nx6 H
    refine OJ.rd rfl rfl rfl (r_nil rfl rfl H) ?_
    intro v47_7 H
    refine OJ.rd rfl rfl rfl (r_fieldAddr rfl rfl H) ?_
    intro v48_8 H
    refine OJ.rd rfl rfl rfl (r_fieldAddr rfl rfl H) ?_
    intro v49_9 H
    refine OJ.wr rfl rfl (r_store rfl rfl rfl H) ?_
    intro h10 H
    refine OJ.rd rfl rfl rfl (r_nil rfl rfl H) ?_
    intro v50_11 H
    refine OJ.rd rfl rfl rfl (r_fieldAddr rfl rfl H) ?_
    intro v51_12 H
    refine OJ.rd rfl rfl rfl (r_fieldAddr rfl rfl H) ?_
    intro v52_13 H
    refine OJ.wr rfl rfl (r_store rfl rfl rfl H) ?_
    intro h14 H
    refine OJ.rd rfl rfl rfl (r_nil rfl rfl H) ?_
    intro v53_15 H
    refine OJ.rd rfl rfl rfl (r_fieldAddr rfl rfl H) ?_
    intro v54_16 H
    refine OJ.rd rfl rfl rfl (r_fieldAddr rfl rfl H) ?_
    intro v55_17 H
    refine OJ.wr rfl rfl (r_store rfl rfl rfl H) ?_
    intro h18 H
    refine OJ.fin ?_
    refine CJ.seq (CJ.cut (X := Value × Unit) (fun x h nx => H124_j19 k  x.1 h nx) (fun x => [(0, some x.1)]) ?_ ?_)
    · refine CJ.seq ?_
      refine CJ.region ?_
      refine OJ.mv rfl rfl rfl (r_move rfl rfl) ?_
      refine OJ.rd rfl rfl rfl (r_nil rfl rfl H) ?_
      intro v57_34 H
      refine OJ.rd rfl rfl rfl (r_fieldAddr rfl rfl H) ?_
      intro v58_35 H
      refine OJ.rd rfl rfl rfl (r_fieldAddr rfl rfl H) ?_
      intro v59_36 H
      refine OJ.rd rfl rfl rfl (r_load rfl rfl H) ?_
      intro v60_37 H
      refine OJ.rd rfl rfl rfl (r_len (x := default) rfl rfl (And.intro rfl True.intro) rfl H) ?_
      intro v61_38 H
      refine OJ.mv rfl rfl rfl (r_move rfl rfl) ?_
      refine OJ.fin ?_
      refine CJ.block ?_
      refine CJ.weaken [(0, (some a0_3)), (61, (some v61_38)), (62, (some (.int .i64 (.ofNat 0))))] (And.intro rfl (And.intro rfl (And.intro rfl True.intro))) ?_
      refine CJ.loop_ind (X := Value × Value × Value × Unit) (fun n x h nx => H124_l39 k  n x.1 x.2.1 x.2.2.1 h nx) (fun x => [(0, some x.1), (61, some x.2.1), (62, some x.2.2.1)]) (fun _ _ _ => rfl) ?_ 200000 (a0_3, v61_38, (.int .i64 (.ofNat 0)), ()) _ _ H
      intro ih39n ih39p ⟨a0_40, a61_40, a62_40, _u⟩ h nx H
      let ih39 := H124_l39 k  ih39n
      refine CJ.seq ?_
      refine CJ.region ?_
      refine OJ.rd rfl rfl rfl (r_bin rfl rfl rfl H) ?_
      intro v63_41 H
      refine OJ.fin ?_
      refine CJ.seq (CJ.cut (X := Unit) (fun x h nx => H124_j42 k ih39  h nx) (fun x => []) ?_ ?_)
      · refine CJ.ite rfl H (fun H => ?_) (fun H => ?_)
        · cases H
        · exact CJ.exit [(0, (some a0_40))] (And.intro rfl True.intro) (Exists.intro (a0_40, ()) (And.intro rfl H))
      · intro _u h nx H
        cases H
    · intro ⟨a0_20, _u⟩ h nx H
      refine CJ.seq (CJ.cut (X := Value × Unit) (fun x h nx => H124_j21 k  x.1 h nx) (fun x => [(0, some x.1)]) ?_ ?_)
      · refine CJ.seq ?_
        refine CJ.region ?_
        refine OJ.mv rfl rfl rfl (r_move rfl rfl) ?_
        refine OJ.rd rfl rfl rfl (r_nil rfl rfl H) ?_
        intro v73_24 H
        refine OJ.rd rfl rfl rfl (r_fieldAddr rfl rfl H) ?_
        intro v74_25 H
        refine OJ.rd rfl rfl rfl (r_fieldAddr rfl rfl H) ?_
        intro v75_26 H
        refine OJ.rd rfl rfl rfl (r_load rfl rfl H) ?_
        intro v76_27 H
        refine OJ.rd rfl rfl rfl (r_len (x := default) rfl rfl (And.intro rfl True.intro) rfl H) ?_
        intro v77_28 H
        refine OJ.mv rfl rfl rfl (r_move rfl rfl) ?_
        refine OJ.fin ?_
        refine CJ.block ?_
        refine CJ.weaken [(0, (some a0_20)), (77, (some v77_28)), (78, (some (.int .i64 (.ofNat 0))))] (And.intro rfl (And.intro rfl (And.intro rfl True.intro))) ?_
        refine CJ.loop_ind (X := Value × Value × Value × Unit) (fun n x h nx => H124_l29 k  n x.1 x.2.1 x.2.2.1 h nx) (fun x => [(0, some x.1), (77, some x.2.1), (78, some x.2.2.1)]) (fun _ _ _ => rfl) ?_ 200000 (a0_20, v77_28, (.int .i64 (.ofNat 0)), ()) _ _ H
        intro ih29n ih29p ⟨a0_30, a77_30, a78_30, _u⟩ h nx H
        let ih29 := H124_l29 k  ih29n
        refine CJ.seq ?_
        refine CJ.region ?_
        refine OJ.rd rfl rfl rfl (r_bin rfl rfl rfl H) ?_
        intro v79_31 H
        refine OJ.fin ?_
        refine CJ.seq (CJ.cut (X := Unit) (fun x h nx => H124_j32 k ih29  h nx) (fun x => []) ?_ ?_)
        · refine CJ.ite rfl H (fun H => ?_) (fun H => ?_)
          · cases H
          · exact CJ.exit [(0, (some a0_30))] (And.intro rfl True.intro) (Exists.intro (a0_30, ()) (And.intro rfl H))
        · intro _u h nx H
          cases H
      · intro ⟨a0_22, _u⟩ h nx H
        refine CJ.region ?_
        refine OJ.mv rfl rfl rfl (r_move rfl rfl) ?_
        refine OJ.fu rfl rfl rfl (r_call (args := [a0_22]) rfl rfl rfl (And.intro rfl True.intro) Tryz.call129 (sim129 H)) ?_
        intro v106_23 h23 nx23 H
        refine OJ.fin ?_
        exact ret_many (vs := []) [] (Or.inl rfl) rfl True.intro H

/-! 87 -/
noncomputable def H87_j5 (k : KV)  (a0_6 : Value) (a2_6 : Value) (h : Heap) (nx : Nat) : Bool :=
  loadK Tryz.prog 29 a2_6 h fun v40_7 =>
  H124 a0_6 v40_7 (.int .i64 (.ofNat 0)) h nx fun v41_8 h8 nx8 =>
  hRet [] h8 nx8 k
noncomputable def H87_j3 (k : KV)  (a0_4 : Value) (a2_4 : Value) (a3_4 : Value) (h : Heap) (nx : Nat) : Bool :=
  binK Tryz.prog .eql 44 (.tmp 35) (.const (.int .i64 (.ofNat 10))) a3_4 (.int .i64 (.ofNat 10)) fun v36_9 =>
  hIf v36_9 (fun _ => false) (fun _ => H87_j5 k  a0_4 a2_4 h nx)
noncomputable def H87_j1 (k : KV)  (a0_2 : Value) (h : Heap) (nx : Nat) : Bool :=
  hNil a0_2 fun v11_11 =>
  hFieldAddr Tryz.prog 176 v11_11 0 fun v12_12 =>
  hFieldAddr Tryz.prog 36 v12_12 2 fun v13_13 =>
  loadK Tryz.prog 3 v13_13 h fun v14_14 =>
  hNil a0_2 fun v16_15 =>
  hFieldAddr Tryz.prog 176 v16_15 0 fun v17_16 =>
  hFieldAddr Tryz.prog 36 v17_16 1 fun v18_17 =>
  hFieldAddr Tryz.prog 29 v18_17 0 fun v19_18 =>
  loadK Tryz.prog 3 v19_18 h fun v20_19 =>
  hMax Tryz.prog [3, 3] [v14_14, v20_19] fun v21_20 =>
  hNil a0_2 fun v23_21 =>
  hFieldAddr Tryz.prog 176 v23_21 0 fun v24_22 =>
  hFieldAddr Tryz.prog 36 v24_22 9 fun v25_23 =>
  loadK Tryz.prog 3 v25_23 h fun v26_24 =>
  hNil a0_2 fun v28_25 =>
  hFieldAddr Tryz.prog 176 v28_25 0 fun v29_26 =>
  hFieldAddr Tryz.prog 36 v29_26 0 fun v30_27 =>
  loadK Tryz.prog 3 v30_27 h fun v31_28 =>
  hAlloc Tryz.prog 29 h nx fun v2_29 h29 nx29 =>
  loadK Tryz.prog 3 v13_13 h29 fun v14_31 =>
  hEq v14_31 v14_14 fun _ => loadK Tryz.prog 3 v19_18 h29 fun v20_33 =>
  hEq v20_33 v20_19 fun _ => loadK Tryz.prog 3 v25_23 h29 fun v26_35 =>
  hEq v26_35 v26_24 fun _ => loadK Tryz.prog 3 v30_27 h29 fun v31_37 =>
  hEq v31_37 v31_28 fun _ => H123 v21_20 v26_24 v31_28 h29 nx29 fun v32_38 h38 nx38 =>
  hExtract v32_38 0 fun v33_39 =>
  hExtract v32_38 1 fun v34_40 =>
  hSame h29 h38 nx fun _ => storeK Tryz.prog 29 v2_29 v33_39 h38 fun h42 =>
  H87_j3 k  a0_2 v2_29 v34_40 h42 nx38
noncomputable def H87 (a0 : Value) (h : Heap) (nx : Nat) (k : KV) : Bool :=
  hNil a0 fun v5_43 =>
  hFieldAddr Tryz.prog 176 v5_43 0 fun v6_44 =>
  hFieldAddr Tryz.prog 36 v6_44 10 fun v7_45 =>
  loadK Tryz.prog 4 v7_45 h fun v8_46 =>
  hIf v8_46 (fun _ => false) (fun _ => H87_j1 k  a0 h nx)
theorem sim87 {a0 : Value} {h : Heap} {nx : Nat} {k : KV} (H : H87 a0 h nx k = true) : ∃ v h' nx', k v h' nx' = true ∧ CallSim Tryz.prog 87 [a0] h nx v h' nx' := by
  refine fn_rule Tryz.func87 rfl rfl ?_
  refine CJ.seq (CJ.cut (X := Value × Unit) (fun x h nx => H87_j1 k  x.1 h nx) (fun x => [(0, some x.1)]) ?_ ?_)
  · refine CJ.seq ?_
    refine CJ.region ?_
    refine OJ.mv rfl rfl rfl (r_move rfl rfl) ?_
    refine OJ.rd rfl rfl rfl (r_nil rfl rfl H) ?_
    intro v5_43 H
    refine OJ.rd rfl rfl rfl (r_fieldAddr rfl rfl H) ?_
    intro v6_44 H
    refine OJ.rd rfl rfl rfl (r_fieldAddr rfl rfl H) ?_
    intro v7_45 H
    refine OJ.rd rfl rfl rfl (r_load rfl rfl H) ?_
    intro v8_46 H
    refine OJ.fin ?_
    refine CJ.ite rfl H (fun H => ?_) (fun H => ?_)
    · cases H
    · exact CJ.skip [(0, (some a0))] (And.intro rfl True.intro) (Exists.intro (a0, ()) (And.intro rfl H))
  · intro ⟨a0_2, _u⟩ h nx H
    refine CJ.seq (CJ.cut (X := Value × Value × Value × Unit) (fun x h nx => H87_j3 k  x.1 x.2.1 x.2.2.1 h nx) (fun x => [(0, some x.1), (2, some x.2.1), (3, some x.2.2.1)]) ?_ ?_)
    · refine DJ.hm [0, 1, 3, 7, 15, 0, 32, 96, 224, 480, 992, 2047, 0, 4096, 12288, 28672, 61440, 0, 131072, 393216, 917504, 1966080, 4194303, 8388607, 16777215, 16777215, 0, 100663295, 268435455] (by decide +kernel) ?_
      intro hm10
      refine DJ.mv 0 [(0, (some a0_2))] (a_move rfl rfl) ?_
      intro S10_0
      refine DJ.any 1 [(10, (some a0_2))] (a_nil rfl rfl H) ?_
      intro v11_11 H S10_1
      refine DJ.any 2 [(11, (some v11_11))] (a_fieldAddr rfl rfl H) ?_
      intro v12_12 H S10_2
      refine DJ.any 3 [(12, (some v12_12))] (a_fieldAddr rfl rfl H) ?_
      intro v13_13 H S10_3
      refine DJ.rd 4 [(13, (some v13_13))] h nx (r_load rfl rfl H) ?_
      intro v14_14 H S10_4
      refine DJ.mv 5 [(0, (some a0_2))] (a_move rfl rfl) ?_
      intro S10_5
      refine DJ.any 6 [(15, (some a0_2))] (a_nil rfl rfl H) ?_
      intro v16_15 H S10_6
      refine DJ.any 7 [(16, (some v16_15))] (a_fieldAddr rfl rfl H) ?_
      intro v17_16 H S10_7
      refine DJ.any 8 [(17, (some v17_16))] (a_fieldAddr rfl rfl H) ?_
      intro v18_17 H S10_8
      refine DJ.any 9 [(18, (some v18_17))] (a_fieldAddr rfl rfl H) ?_
      intro v19_18 H S10_9
      refine DJ.rd 10 [(19, (some v19_18))] h nx (r_load rfl rfl H) ?_
      intro v20_19 H S10_10
      refine DJ.any 11 [(14, (some v14_14)), (20, (some v20_19))] (a_max (xs := [v14_14, v20_19]) rfl rfl (And.intro rfl (And.intro rfl True.intro)) rfl H) ?_
      intro v21_20 H S10_11
      refine DJ.mv 12 [(0, (some a0_2))] (a_move rfl rfl) ?_
      intro S10_12
      refine DJ.any 13 [(22, (some a0_2))] (a_nil rfl rfl H) ?_
      intro v23_21 H S10_13
      refine DJ.any 14 [(23, (some v23_21))] (a_fieldAddr rfl rfl H) ?_
      intro v24_22 H S10_14
      refine DJ.any 15 [(24, (some v24_22))] (a_fieldAddr rfl rfl H) ?_
      intro v25_23 H S10_15
      refine DJ.rd 16 [(25, (some v25_23))] h nx (r_load rfl rfl H) ?_
      intro v26_24 H S10_16
      refine DJ.mv 17 [(0, (some a0_2))] (a_move rfl rfl) ?_
      intro S10_17
      refine DJ.any 18 [(27, (some a0_2))] (a_nil rfl rfl H) ?_
      intro v28_25 H S10_18
      refine DJ.any 19 [(28, (some v28_25))] (a_fieldAddr rfl rfl H) ?_
      intro v29_26 H S10_19
      refine DJ.any 20 [(29, (some v29_26))] (a_fieldAddr rfl rfl H) ?_
      intro v30_27 H S10_20
      refine DJ.rd 21 [(30, (some v30_27))] h nx (r_load rfl rfl H) ?_
      intro v31_28 H S10_21
      refine DJ.fr 26 [] h nx (f_alloc rfl H) ?_
      intro v2_29 h29 nx29 H E10_26 W10_26 S10_26
      refine DJ.rd 4 [(13, (some v13_13))] h29 nx29 (r_load rfl rfl H) ?_
      intro v14_31 H Q30
      obtain ⟨q30, H⟩ := hEq_true H
      refine DJ.rd 10 [(19, (some v19_18))] h29 nx29 (r_load rfl rfl H) ?_
      intro v20_33 H Q32
      obtain ⟨q32, H⟩ := hEq_true H
      refine DJ.rd 16 [(25, (some v25_23))] h29 nx29 (r_load rfl rfl H) ?_
      intro v26_35 H Q34
      obtain ⟨q34, H⟩ := hEq_true H
      refine DJ.rd 21 [(30, (some v30_27))] h29 nx29 (r_load rfl rfl H) ?_
      intro v31_37 H Q36
      obtain ⟨q36, H⟩ := hEq_true H
      refine DJ.fu 22 [(21, (some v21_20)), (26, (some v26_24)), (31, (some v31_28))] h29 nx29 (r_call (args := [v21_20, v26_24, v31_28]) rfl rfl rfl (And.intro rfl (And.intro rfl (And.intro rfl True.intro))) Tryz.call123 (sim123 H)) ?_
      intro v32_38 h38 nx38 H S10_22
      have I10_22 := S10_22.1
      refine DJ.mv 23 [(32, (some v32_38))] (a_move rfl rfl) ?_
      intro S10_23
      refine DJ.any 24 [(9, (some v32_38))] (a_extract rfl rfl H) ?_
      intro v33_39 H S10_24
      refine DJ.any 25 [(9, (some v32_38))] (a_extract rfl rfl H) ?_
      intro v34_40 H S10_25
      obtain ⟨q41, H⟩ := hSame_true H
      refine DJ.wr 27 [(2, (some v2_29)), (33, (some v33_39))] h38 nx38 (r_store rfl rfl rfl H) ?_
      intro h42 H S10_27
      have I10_27 := S10_27.1
      refine DJ.mv 28 [(34, (some v34_40))] (a_assign rfl rfl) ?_
      intro S10_28
      exact CJ.draw1 [(some a0_2), (some v11_11), (some v12_12), (some v13_13), (some v14_14), (some a0_2), (some v16_15), (some v17_16), (some v18_17), (some v19_18), (some v20_19), (some v21_20), (some a0_2), (some v23_21), (some v24_22), (some v25_23), (some v26_24), (some a0_2), (some v28_25), (some v29_26), (some v30_27), (some v31_28), (some v32_38), (some v32_38), (some v33_39), (some v34_40), (some v2_29), none, (some v34_40)] [22, 27] [(h29, nx29), (h38, nx38), (h42, nx38)] [(26, nx)] [0, 1, 2, 3, 4, 5, 6, 7, 8, 9, 10, 11, 12, 13, 14, 15, 16, 17, 18, 19, 20, 21, 22, 23, 24, 25, 26, 27, 28] [0, 1, 2, 3, 4, 5, 6, 7, 8, 9, 10, 11, 12, 13, 14, 15, 16, 17, 18, 19, 20, 21, 22, 23, 24, 25, 26, 27, 28] [0, 1, 2, 3, 4, 5, 6, 7, 8, 9, 10, 11, 12, 13, 14, 15, 16, 17, 18, 19, 20, 21, 22, 23, 24, 26, 27, 25, 28] (by decide +kernel) (And.intro (F_any (Ti := [(0, (some a0_2))]) hm10 [(0, none)] (by decide +kernel) (And.intro rfl (And.intro rfl True.intro)) (guard_no rfl) rfl rfl S10_0) (And.intro (F_any (Ti := [(10, (some a0_2))]) hm10 [(10, some 0)] (by decide +kernel) (And.intro rfl (And.intro rfl True.intro)) (guard_no rfl) rfl rfl S10_1) (And.intro (F_any (Ti := [(11, (some v11_11))]) hm10 [(11, some 1)] (by decide +kernel) (And.intro rfl (And.intro rfl True.intro)) (guard_no rfl) rfl rfl S10_2) (And.intro (F_any (Ti := [(12, (some v12_12))]) hm10 [(12, some 2)] (by decide +kernel) (And.intro rfl (And.intro rfl True.intro)) (guard_no rfl) rfl rfl S10_3) (And.intro (F_read (Ti := [(13, (some v13_13))]) hm10 [(13, some 3)] (by decide +kernel) (And.intro rfl (And.intro rfl True.intro)) (guard_no rfl) rfl rfl 0 1 (by decide +kernel) (And.intro (opR_eq q30 Q30) True.intro)) (And.intro (F_any (Ti := [(0, (some a0_2))]) hm10 [(0, none)] (by decide +kernel) (And.intro rfl (And.intro rfl True.intro)) (guard_no rfl) rfl rfl S10_5) (And.intro (F_any (Ti := [(15, (some a0_2))]) hm10 [(15, some 5)] (by decide +kernel) (And.intro rfl (And.intro rfl True.intro)) (guard_no rfl) rfl rfl S10_6) (And.intro (F_any (Ti := [(16, (some v16_15))]) hm10 [(16, some 6)] (by decide +kernel) (And.intro rfl (And.intro rfl True.intro)) (guard_no rfl) rfl rfl S10_7) (And.intro (F_any (Ti := [(17, (some v17_16))]) hm10 [(17, some 7)] (by decide +kernel) (And.intro rfl (And.intro rfl True.intro)) (guard_no rfl) rfl rfl S10_8) (And.intro (F_any (Ti := [(18, (some v18_17))]) hm10 [(18, some 8)] (by decide +kernel) (And.intro rfl (And.intro rfl True.intro)) (guard_no rfl) rfl rfl S10_9) (And.intro (F_read (Ti := [(19, (some v19_18))]) hm10 [(19, some 9)] (by decide +kernel) (And.intro rfl (And.intro rfl True.intro)) (guard_no rfl) rfl rfl 0 1 (by decide +kernel) (And.intro (opR_eq q32 Q32) True.intro)) (And.intro (F_any (Ti := [(14, (some v14_14)), (20, (some v20_19))]) hm10 [(14, some 4), (20, some 10)] (by decide +kernel) (And.intro rfl (And.intro rfl (And.intro rfl (And.intro rfl True.intro)))) (guard_no rfl) rfl rfl S10_11) (And.intro (F_any (Ti := [(0, (some a0_2))]) hm10 [(0, none)] (by decide +kernel) (And.intro rfl (And.intro rfl True.intro)) (guard_no rfl) rfl rfl S10_12) (And.intro (F_any (Ti := [(22, (some a0_2))]) hm10 [(22, some 12)] (by decide +kernel) (And.intro rfl (And.intro rfl True.intro)) (guard_no rfl) rfl rfl S10_13) (And.intro (F_any (Ti := [(23, (some v23_21))]) hm10 [(23, some 13)] (by decide +kernel) (And.intro rfl (And.intro rfl True.intro)) (guard_no rfl) rfl rfl S10_14) (And.intro (F_any (Ti := [(24, (some v24_22))]) hm10 [(24, some 14)] (by decide +kernel) (And.intro rfl (And.intro rfl True.intro)) (guard_no rfl) rfl rfl S10_15) (And.intro (F_read (Ti := [(25, (some v25_23))]) hm10 [(25, some 15)] (by decide +kernel) (And.intro rfl (And.intro rfl True.intro)) (guard_no rfl) rfl rfl 0 1 (by decide +kernel) (And.intro (opR_eq q34 Q34) True.intro)) (And.intro (F_any (Ti := [(0, (some a0_2))]) hm10 [(0, none)] (by decide +kernel) (And.intro rfl (And.intro rfl True.intro)) (guard_no rfl) rfl rfl S10_17) (And.intro (F_any (Ti := [(27, (some a0_2))]) hm10 [(27, some 17)] (by decide +kernel) (And.intro rfl (And.intro rfl True.intro)) (guard_no rfl) rfl rfl S10_18) (And.intro (F_any (Ti := [(28, (some v28_25))]) hm10 [(28, some 18)] (by decide +kernel) (And.intro rfl (And.intro rfl True.intro)) (guard_no rfl) rfl rfl S10_19) (And.intro (F_any (Ti := [(29, (some v29_26))]) hm10 [(29, some 19)] (by decide +kernel) (And.intro rfl (And.intro rfl True.intro)) (guard_no rfl) rfl rfl S10_20) (And.intro (F_read (Ti := [(30, (some v30_27))]) hm10 [(30, some 20)] (by decide +kernel) (And.intro rfl (And.intro rfl True.intro)) (guard_no rfl) rfl rfl 0 1 (by decide +kernel) (And.intro (opR_eq q36 Q36) True.intro)) (And.intro (F_eff (Ti := [(21, (some v21_20)), (26, (some v26_24)), (31, (some v31_28))]) hm10 [(21, some 11), (26, some 16), (31, some 21)] (by decide +kernel) (And.intro rfl (And.intro rfl (And.intro rfl (And.intro rfl (And.intro rfl (And.intro rfl True.intro)))))) (guard_no rfl) rfl 0 rfl (by decide +kernel) S10_22 (Grow.refl _ _) (show nx ≤ nx29 by omega) (And.intro (show nx < nx29 ∨ nx38 ≤ nx by omega) True.intro)) (And.intro (F_any (Ti := [(32, (some v32_38))]) hm10 [(32, some 22)] (by decide +kernel) (And.intro rfl (And.intro rfl True.intro)) (guard_no rfl) rfl rfl S10_23) (And.intro (F_any (Ti := [(9, (some v32_38))]) hm10 [(9, some 23)] (by decide +kernel) (And.intro rfl (And.intro rfl True.intro)) (guard_no rfl) rfl rfl S10_24) (And.intro (F_any (Ti := [(9, (some v32_38))]) hm10 [(9, some 23)] (by decide +kernel) (And.intro rfl (And.intro rfl True.intro)) (guard_no rfl) rfl rfl S10_25) (And.intro (F_fresh (Ti := []) hm10 [] (by decide +kernel) True.intro (guard_no rfl) rfl nx rfl (by omega) (And.intro (fun _ => rfl) True.intro) 0 2 (by decide +kernel) (And.intro (S10_26 _ _ (show nx < nx29 by omega) rfl) (And.intro (S10_26 _ _ (show nx < nx38 by omega) q41) True.intro))) (And.intro (F_eff (Ti := [(2, (some v2_29)), (33, (some v33_39))]) hm10 [(2, some 26), (33, some 24)] (by decide +kernel) (And.intro rfl (And.intro rfl (And.intro rfl (And.intro rfl True.intro)))) (guard_no rfl) rfl 1 rfl (by decide +kernel) S10_27 (Grow.refl _ _) (show nx ≤ nx38 by omega) (And.intro (show nx < nx38 ∨ nx38 ≤ nx by omega) True.intro)) (And.intro (F_any (Ti := [(34, (some v34_40))]) hm10 [(34, some 25)] (by decide +kernel) (And.intro rfl (And.intro rfl True.intro)) (guard_no rfl) rfl rfl S10_28) True.intro))))))))))))))))))))))))))))) rfl (And.intro (by omega) (And.intro (by omega) (And.intro (by omega) True.intro))) (And.intro (by omega) True.intro) (Grow.trans (Grow.refl _ _) W10_26) [(0, none), (2, some 26), (3, some 28)] [(0, (some a0_2)), (2, (some v2_29)), (3, (some v34_40))] (by decide +kernel) (And.intro rfl (And.intro rfl (And.intro rfl (And.intro rfl (And.intro rfl (And.intro rfl True.intro)))))) rfl (Exists.intro (a0_2, v2_29, v34_40, ()) (And.intro rfl H))
    · intro ⟨a0_4, a2_4, a3_4, _u⟩ h nx H
      refine CJ.seq (CJ.cut (X := Value × Value × Unit) (fun x h nx => H87_j5 k  x.1 x.2.1 h nx) (fun x => [(0, some x.1), (2, some x.2.1)]) ?_ ?_)
      · refine CJ.seq ?_
        refine CJ.region ?_
        refine OJ.mv rfl rfl rfl (r_move rfl rfl) ?_
        refine OJ.rd rfl rfl rfl (r_bin rfl rfl rfl H) ?_
        intro v36_9 H
        refine OJ.fin ?_
        refine CJ.ite rfl H (fun H => ?_) (fun H => ?_)
        · cases H
        · exact CJ.skip [(0, (some a0_4)), (2, (some a2_4))] (And.intro rfl (And.intro rfl True.intro)) (Exists.intro (a0_4, a2_4, ()) (And.intro rfl H))
      · intro ⟨a0_6, a2_6, _u⟩ h nx H
        refine CJ.region ?_
        refine OJ.mv rfl rfl rfl (r_move rfl rfl) ?_
        refine OJ.rd rfl rfl rfl (r_load rfl rfl H) ?_
        intro v40_7 H
        refine OJ.fu rfl rfl rfl (r_call (args := [a0_6, v40_7, (.int .i64 (.ofNat 0))]) rfl rfl rfl (And.intro rfl (And.intro rfl (And.intro rfl True.intro))) Tryz.call124 (sim124 H)) ?_
        intro v41_8 h8 nx8 H
        refine OJ.fin ?_
        exact ret_many (vs := []) [] (Or.inl rfl) rfl True.intro H

/-! 52 -/
noncomputable def H52_j2 (k : KV)  (a0_3 : Value) (a1_3 : Value) (a4_3 : Value) (h : Heap) (nx : Nat) : Bool :=
  hBuild Tryz.prog 36 [(0, a0_3), (9, a1_3)] fun v21_4 =>
  hBuild Tryz.prog 176 [(0, v21_4)] fun v22_5 =>
  hBox v22_5 h nx fun v23_6 h6 nx6 =>
  H87 v23_6 h6 nx6 fun v25_7 h7 nx7 =>
  hNil v23_6 fun v27_8 =>
  hFieldAddr Tryz.prog 176 v27_8 0 fun v28_9 =>
  loadK Tryz.prog 36 v28_9 h7 fun v29_10 =>
  storeK Tryz.prog 36 a4_3 v29_10 h7 fun h11 =>
  loadK Tryz.prog 36 a4_3 h11 fun r12 => hNT (.int .i64 (.ofNat 0)) fun _ => k (resV [r12, (.int .i64 (.ofNat 0))]) h11 nx7
noncomputable def H52_g19 (k : KV)  (a0 : Value) (a1 : Value) (v4_1 : Value) (v13_18 : Value) (o15_20 : Option Value) (o16_20 : Option Value) (h : Heap) (nx : Nat) : Bool :=
  hPick v13_18 (some (.bool true)) o16_20 fun v17_21 =>
  hIf v17_21 (fun _ => false) (fun _ => H52_j2 k  a0 a1 v4_1 h nx)
noncomputable def H52_g16 (k : KV)  (a0 : Value) (a1 : Value) (v4_1 : Value) (v9_15 : Value) (o11_17 : Option Value) (o12_17 : Option Value) (h : Heap) (nx : Nat) : Bool :=
  hPick v9_15 (some (.bool true)) o12_17 fun v13_18 =>
  hG (some v13_18) false (fun _ => binK Tryz.prog .gtr 3 (.tmp 15) (.const (.int .i64 (.ofNat 2147483647))) a1 (.int .i64 (.ofNat 2147483647)) fun v16_22 =>
  H52_g19 k  a0 a1 v4_1 v13_18 (some a1) (some v16_22) h nx) (fun _ => H52_g19 k  a0 a1 v4_1 v13_18 none none h nx)
noncomputable def H52 (a0 : Value) (a1 : Value) (h : Heap) (nx : Nat) (k : KV) : Bool :=
  hAlloc Tryz.prog 36 h nx fun v4_1 h1 nx1 =>
  H84 a0 h1 nx1 fun v8_14 h14 nx14 =>
  hUn Tryz.prog .not v8_14 fun v9_15 =>
  hG (some v9_15) false (fun _ => binK Tryz.prog .lss 3 (.tmp 11) (.const (.int .i64 (.ofNat 1))) a1 (.int .i64 (.ofNat 1)) fun v12_23 =>
  H52_g16 k  a0 a1 v4_1 v9_15 (some a1) (some v12_23) h14 nx14) (fun _ => H52_g16 k  a0 a1 v4_1 v9_15 none none h14 nx14)
theorem sim52 {a0 a1 : Value} {h : Heap} {nx : Nat} {k : KV} (H : H52 a0 a1 h nx k = true) : ∃ v h' nx', k v h' nx' = true ∧ CallSim Tryz.prog 52 [a0, a1] h nx v h' nx' := by
  refine fn_rule Tryz.func52 rfl rfl ?_
  refine CJ.seq ?_
  refine CJ.region ?_
  refine OJ.fu rfl rfl rfl (r_alloc1 rfl H) ?_
  intro v4_1 h1 nx1 H
  refine OJ.mv rfl rfl rfl (r_assign rfl rfl) ?_
  refine OJ.fin ?_
  refine CJ.seq (CJ.cut (X := Value × Value × Value × Unit) (fun x h nx => H52_j2 k  x.1 x.2.1 x.2.2.1 h nx) (fun x => [(0, some x.1), (1, some x.2.1), (4, some x.2.2.1)]) ?_ ?_)
  · refine CJ.seq ?_
    refine CJ.region ?_
    refine OJ.mv rfl rfl rfl (r_move rfl rfl) ?_
    refine OJ.fu rfl rfl rfl (r_call (args := [a0]) rfl rfl rfl (And.intro rfl True.intro) Tryz.call84 (sim84 H)) ?_
    intro v8_14 h14 nx14 H
    refine OJ.rd rfl rfl rfl (r_un rfl rfl H) ?_
    intro v9_15 H
    refine OJ.mv rfl rfl rfl (r_move rfl rfl) ?_
    refine OJ.cut (X := Option Value × Option Value × Unit) 2 (fun x h nx => H52_g16 k  a0 a1 v4_1 v9_15 x.1 x.2.1 h nx) (fun x => [(11, x.1), (12, x.2.1), (0, (some a0)), (1, (some a1)), (4, (some v4_1)), (10, (some v9_15))]) ?_ (fun next => ?_)
    · intro ⟨o11_17, o12_17, _u⟩ h nx H
      refine OJ.rd rfl rfl rfl (r_pick rfl rfl rfl rfl H) ?_
      intro v13_18 H
      refine OJ.mv rfl rfl rfl (r_move rfl rfl) ?_
      refine OJ.cut (X := Option Value × Option Value × Unit) 2 (fun x h nx => H52_g19 k  a0 a1 v4_1 v13_18 x.1 x.2.1 h nx) (fun x => [(15, x.1), (16, x.2.1), (0, (some a0)), (1, (some a1)), (4, (some v4_1)), (14, (some v13_18))]) ?_ (fun next => ?_)
      · intro ⟨o15_20, o16_20, _u⟩ h nx H
        refine OJ.rd rfl rfl rfl (r_pick rfl rfl rfl rfl H) ?_
        intro v17_21 H
        refine OJ.fin ?_
        refine CJ.ite rfl H (fun H => ?_) (fun H => ?_)
        · cases H
        · exact CJ.skip [(0, (some a0)), (1, (some a1)), (4, (some v4_1))] (And.intro rfl (And.intro rfl (And.intro rfl True.intro))) (Exists.intro (a0, a1, v4_1, ()) (And.intro rfl H))
      · rcases hG_true H with ⟨g, H⟩ | ⟨g, H⟩
        · refine OJ.gmv rfl rfl rfl g rfl rfl (r_move rfl rfl) ?_
          refine OJ.grd rfl rfl rfl g rfl rfl (r_bin rfl rfl rfl H) ?_
          intro v16_22 H
          exact OJ.weaken [(15, (some a1)), (16, (some v16_22)), (0, (some a0)), (1, (some a1)), (4, (some v4_1)), (14, (some v13_18))] (And.intro rfl (And.intro rfl (And.intro rfl (And.intro rfl (And.intro rfl (And.intro rfl True.intro)))))) (next ((some a1), (some v16_22), ()) _ _ H)
        · refine OJ.no rfl rfl rfl g rfl rfl ?_
          refine OJ.no rfl rfl rfl g rfl rfl ?_
          exact OJ.weaken [(15, none), (16, none), (0, (some a0)), (1, (some a1)), (4, (some v4_1)), (14, (some v13_18))] (And.intro rfl (And.intro rfl (And.intro rfl (And.intro rfl (And.intro rfl (And.intro rfl True.intro)))))) (next (none, none, ()) _ _ H)
    · rcases hG_true H with ⟨g, H⟩ | ⟨g, H⟩
      · refine OJ.gmv rfl rfl rfl g rfl rfl (r_move rfl rfl) ?_
        refine OJ.grd rfl rfl rfl g rfl rfl (r_bin rfl rfl rfl H) ?_
        intro v12_23 H
        exact OJ.weaken [(11, (some a1)), (12, (some v12_23)), (0, (some a0)), (1, (some a1)), (4, (some v4_1)), (10, (some v9_15))] (And.intro rfl (And.intro rfl (And.intro rfl (And.intro rfl (And.intro rfl (And.intro rfl True.intro)))))) (next ((some a1), (some v12_23), ()) _ _ H)
      · refine OJ.no rfl rfl rfl g rfl rfl ?_
        refine OJ.no rfl rfl rfl g rfl rfl ?_
        exact OJ.weaken [(11, none), (12, none), (0, (some a0)), (1, (some a1)), (4, (some v4_1)), (10, (some v9_15))] (And.intro rfl (And.intro rfl (And.intro rfl (And.intro rfl (And.intro rfl (And.intro rfl True.intro)))))) (next (none, none, ()) _ _ H)
  · intro ⟨a0_3, a1_3, a4_3, _u⟩ h nx H
    refine CJ.seq ?_
    refine CJ.region ?_
    refine OJ.mv rfl rfl rfl (r_move rfl rfl) ?_
    refine OJ.mv rfl rfl rfl (r_move rfl rfl) ?_
    refine OJ.rd rfl rfl rfl (r_build (vs := [(0, a0_3), (9, a1_3)]) rfl (And.intro rfl (And.intro rfl (And.intro rfl (And.intro rfl True.intro)))) H) ?_
    intro v21_4 H
    refine OJ.rd rfl rfl rfl (r_build (vs := [(0, v21_4)]) rfl (And.intro rfl (And.intro rfl True.intro)) H) ?_
    intro v22_5 H
    refine OJ.fu rfl rfl rfl (r_box rfl rfl H) ?_
    intro v23_6 h6 nx6 H
    refine OJ.mv rfl rfl rfl (r_assign rfl rfl) ?_
    refine OJ.fin ?_
    refine CJ.seq ?_
    refine CJ.region ?_
    refine OJ.mv rfl rfl rfl (r_move rfl rfl) ?_
    refine OJ.fu rfl rfl rfl (r_call (args := [v23_6]) rfl rfl rfl (And.intro rfl True.intro) Tryz.call87 (sim87 H)) ?_
    intro v25_7 h7 nx7 H
    refine OJ.fin ?_
    refine CJ.seq ?_
    refine CJ.region ?_
    refine OJ.mv rfl rfl rfl (r_move rfl rfl) ?_
    refine OJ.rd rfl rfl rfl (r_nil rfl rfl H) ?_
    intro v27_8 H
    refine OJ.rd rfl rfl rfl (r_fieldAddr rfl rfl H) ?_
    intro v28_9 H
    refine OJ.rd rfl rfl rfl (r_load rfl rfl H) ?_
    intro v29_10 H
    refine OJ.wr rfl rfl (r_store rfl rfl rfl H) ?_
    intro h11 H
    refine OJ.mv rfl rfl rfl (r_assign rfl rfl) ?_
    refine OJ.fin ?_
    refine CJ.ret1 ?_
    obtain ⟨r12, H, l12⟩ := load_val H
    obtain ⟨n13, H⟩ := hNT_true H
    exact ret_gen (vs := [r12, (.int .i64 (.ofNat 0))]) (Or.inr rfl) (And.intro (Exists.intro a4_3 (And.intro rfl l12)) (And.intro rfl (And.intro n13 True.intro))) H

/-! 53 -/
noncomputable def H53_g2 (k : KV)  (v4_1 : Value) (o6_3 : Option Value) (o7_3 : Option Value) (h : Heap) (nx : Nat) : Bool :=
  hPick v4_1 o7_3 (some (.bool false)) fun v8_4 =>
  k v8_4 h nx
noncomputable def H53 (a0 : Value) (h : Heap) (nx : Nat) (k : KV) : Bool :=
  binK Tryz.prog .geq 3 (.tmp 3) (.const (.int .i64 (.ofNat 1))) a0 (.int .i64 (.ofNat 1)) fun v4_1 =>
  hG (some v4_1) true (fun _ => binK Tryz.prog .leq 3 (.tmp 6) (.const (.int .i64 (.ofNat 2147483647))) a0 (.int .i64 (.ofNat 2147483647)) fun v7_5 =>
  H53_g2 k  v4_1 (some a0) (some v7_5) h nx) (fun _ => H53_g2 k  v4_1 none none h nx)
theorem sim53 {a0 : Value} {h : Heap} {nx : Nat} {k : KV} (H : H53 a0 h nx k = true) : ∃ v h' nx', k v h' nx' = true ∧ CallSim Tryz.prog 53 [a0] h nx v h' nx' := by
  refine fn_rule Tryz.func53 rfl rfl ?_
  refine CJ.seq ?_
  refine CJ.region ?_
  refine OJ.mv rfl rfl rfl (r_assign rfl rfl) ?_
  refine OJ.fin ?_
  refine CJ.seq ?_
  refine CJ.region ?_
  refine OJ.mv rfl rfl rfl (r_move rfl rfl) ?_
  refine OJ.rd rfl rfl rfl (r_bin rfl rfl rfl H) ?_
  intro v4_1 H
  refine OJ.mv rfl rfl rfl (r_move rfl rfl) ?_
  refine OJ.cut (X := Option Value × Option Value × Unit) 2 (fun x h nx => H53_g2 k  v4_1 x.1 x.2.1 h nx) (fun x => [(6, x.1), (7, x.2.1), (5, (some v4_1))]) ?_ (fun next => ?_)
  · intro ⟨o6_3, o7_3, _u⟩ h nx H
    refine OJ.rd rfl rfl rfl (r_pick rfl rfl rfl rfl H) ?_
    intro v8_4 H
    refine OJ.mv rfl rfl rfl (r_assign rfl rfl) ?_
    refine OJ.fin ?_
    refine CJ.ret1 ?_
    exact ret_one (Or.inr rfl) rfl rfl H
  · rcases hG_true H with ⟨g, H⟩ | ⟨g, H⟩
    · refine OJ.gmv rfl rfl rfl g rfl rfl (r_move rfl rfl) ?_
      refine OJ.grd rfl rfl rfl g rfl rfl (r_bin rfl rfl rfl H) ?_
      intro v7_5 H
      exact OJ.weaken [(6, (some a0)), (7, (some v7_5)), (5, (some v4_1))] (And.intro rfl (And.intro rfl (And.intro rfl True.intro))) (next ((some a0), (some v7_5), ()) _ _ H)
    · refine OJ.no rfl rfl rfl g rfl rfl ?_
      refine OJ.no rfl rfl rfl g rfl rfl ?_
      exact OJ.weaken [(6, none), (7, none), (5, (some v4_1))] (And.intro rfl (And.intro rfl (And.intro rfl True.intro))) (next (none, none, ()) _ _ H)

/-! 26 -/
noncomputable def H26_j9 (k : KV)  (a3_10 : Value) (a6_10 : Value) (h : Heap) (nx : Nat) : Bool :=
  loadK Tryz.prog 36 a6_10 h fun v29_11 =>
  loadK Tryz.prog 39 a3_10 h fun v30_12 =>
  hBuild Tryz.prog 43 [(0, v29_11), (2, v30_12)] fun v31_13 =>
  hBox v31_13 h nx fun v32_14 h14 nx14 =>
  hRet [v32_14, (.int .i64 (.ofNat 0))] h14 nx14 k
noncomputable def H26_g19 (k : KV)  (v3_1 : Value) (v6_7 : Value) (v22_18 : Value) (o24_20 : Option Value) (o25_20 : Option Value) (o26_20 : Option Value) (o27_20 : Option Value) (h : Heap) (nx : Nat) : Bool :=
  hPick v22_18 (some (.bool true)) o27_20 fun v28_21 =>
  hIf v28_21 (fun _ => false) (fun _ => H26_j9 k  v3_1 v6_7 h nx)
noncomputable def H26_g16 (k : KV)  (v3_1 : Value) (v6_7 : Value) (v16_15 : Value) (o18_17 : Option Value) (o19_17 : Option Value) (o20_17 : Option Value) (o21_17 : Option Value) (h : Heap) (nx : Nat) : Bool :=
  hPick v16_15 (some (.bool true)) o21_17 fun v22_18 =>
  hG (some v22_18) false (fun _ => hFieldAddr Tryz.prog 39 v3_1 2 fun v24_22 =>
  loadK Tryz.prog 3 v24_22 h fun v25_23 =>
  H53 v25_23 h nx fun v26_24 h24 nx24 =>
  hUn Tryz.prog .not v26_24 fun v27_25 =>
  H26_g19 k  v3_1 v6_7 v22_18 (some v24_22) (some v25_23) (some v26_24) (some v27_25) h24 nx24) (fun _ => H26_g19 k  v3_1 v6_7 v22_18 none none none none h nx)
noncomputable def H26 (a0 : Value) (a1 : Value) (h : Heap) (nx : Nat) (k : KV) : Bool :=
  hBox a1 h nx fun v3_1 h1 nx1 =>
  hFieldAddr Tryz.prog 39 v3_1 0 fun v10_2 =>
  loadK Tryz.prog 3 v10_2 h1 fun v11_3 =>
  H52 a0 v11_3 h1 nx1 fun v12_4 h4 nx4 =>
  hExtract v12_4 0 fun v13_5 =>
  hExtract v12_4 1 fun v14_6 =>
  hAlloc Tryz.prog 36 h4 nx4 fun v6_7 h7 nx7 =>
  storeK Tryz.prog 36 v6_7 v13_5 h7 fun h8 =>
  binK Tryz.prog .neq 44 (.tmp 15) (.const (.int .i64 (.ofNat 0))) v14_6 (.int .i64 (.ofNat 0)) fun v16_15 =>
  hG (some v16_15) false (fun _ => hFieldAddr Tryz.prog 39 v3_1 1 fun v18_26 =>
  loadK Tryz.prog 3 v18_26 h8 fun v19_27 =>
  H53 v19_27 h8 nx7 fun v20_28 h28 nx28 =>
  hUn Tryz.prog .not v20_28 fun v21_29 =>
  H26_g16 k  v3_1 v6_7 v16_15 (some v18_26) (some v19_27) (some v20_28) (some v21_29) h28 nx28) (fun _ => H26_g16 k  v3_1 v6_7 v16_15 none none none none h8 nx7)
theorem sim26 {a0 a1 : Value} {h : Heap} {nx : Nat} {k : KV} (H : H26 a0 a1 h nx k = true) : ∃ v h' nx', k v h' nx' = true ∧ CallSim Tryz.prog 26 [a0, a1] h nx v h' nx' := by
  refine fn_rule Tryz.func26 rfl rfl ?_
  refine CJ.seq ?_
  refine CJ.region ?_
  refine OJ.fu rfl rfl rfl (r_box rfl rfl H) ?_
  intro v3_1 h1 nx1 H
  refine OJ.mv rfl rfl rfl (r_assign rfl rfl) ?_
  refine OJ.mv rfl rfl rfl (r_assign rfl rfl) ?_
  refine OJ.fin ?_
  refine CJ.seq ?_
  refine CJ.region ?_
  refine OJ.mv rfl rfl rfl (r_move rfl rfl) ?_
  refine OJ.rd rfl rfl rfl (r_fieldAddr rfl rfl H) ?_
  intro v10_2 H
  refine OJ.rd rfl rfl rfl (r_load rfl rfl H) ?_
  intro v11_3 H
  refine OJ.fu rfl rfl rfl (r_call (args := [a0, v11_3]) rfl rfl rfl (And.intro rfl (And.intro rfl True.intro)) Tryz.call52 (sim52 H)) ?_
  intro v12_4 h4 nx4 H
  refine OJ.mv rfl rfl rfl (r_move rfl rfl) ?_
  refine OJ.rd rfl rfl rfl (r_extract rfl rfl H) ?_
  intro v13_5 H
  refine OJ.rd rfl rfl rfl (r_extract rfl rfl H) ?_
  intro v14_6 H
  refine OJ.fu rfl rfl rfl (r_alloc1 rfl H) ?_
  intro v6_7 h7 nx7 H
  refine OJ.wr rfl rfl (r_store rfl rfl rfl H) ?_
  intro h8 H
  refine OJ.mv rfl rfl rfl (r_assign rfl rfl) ?_
  refine OJ.fin ?_
  refine CJ.seq (CJ.cut (X := Value × Value × Unit) (fun x h nx => H26_j9 k  x.1 x.2.1 h nx) (fun x => [(3, some x.1), (6, some x.2.1)]) ?_ ?_)
  · refine CJ.seq ?_
    refine CJ.region ?_
    refine OJ.mv rfl rfl rfl (r_move rfl rfl) ?_
    refine OJ.rd rfl rfl rfl (r_bin rfl rfl rfl H) ?_
    intro v16_15 H
    refine OJ.mv rfl rfl rfl (r_move rfl rfl) ?_
    refine OJ.cut (X := Option Value × Option Value × Option Value × Option Value × Unit) 4 (fun x h nx => H26_g16 k  v3_1 v6_7 v16_15 x.1 x.2.1 x.2.2.1 x.2.2.2.1 h nx) (fun x => [(18, x.1), (19, x.2.1), (20, x.2.2.1), (21, x.2.2.2.1), (3, (some v3_1)), (6, (some v6_7)), (17, (some v16_15))]) ?_ (fun next => ?_)
    · intro ⟨o18_17, o19_17, o20_17, o21_17, _u⟩ h nx H
      refine OJ.rd rfl rfl rfl (r_pick rfl rfl rfl rfl H) ?_
      intro v22_18 H
      refine OJ.mv rfl rfl rfl (r_move rfl rfl) ?_
      refine OJ.cut (X := Option Value × Option Value × Option Value × Option Value × Unit) 4 (fun x h nx => H26_g19 k  v3_1 v6_7 v22_18 x.1 x.2.1 x.2.2.1 x.2.2.2.1 h nx) (fun x => [(24, x.1), (25, x.2.1), (26, x.2.2.1), (27, x.2.2.2.1), (3, (some v3_1)), (6, (some v6_7)), (23, (some v22_18))]) ?_ (fun next => ?_)
      · intro ⟨o24_20, o25_20, o26_20, o27_20, _u⟩ h nx H
        refine OJ.rd rfl rfl rfl (r_pick rfl rfl rfl rfl H) ?_
        intro v28_21 H
        refine OJ.fin ?_
        refine CJ.ite rfl H (fun H => ?_) (fun H => ?_)
        · cases H
        · exact CJ.skip [(3, (some v3_1)), (6, (some v6_7))] (And.intro rfl (And.intro rfl True.intro)) (Exists.intro (v3_1, v6_7, ()) (And.intro rfl H))
      · rcases hG_true H with ⟨g, H⟩ | ⟨g, H⟩
        · refine OJ.grd rfl rfl rfl g rfl rfl (r_fieldAddr rfl rfl H) ?_
          intro v24_22 H
          refine OJ.grd rfl rfl rfl g rfl rfl (r_load rfl rfl H) ?_
          intro v25_23 H
          refine OJ.gfu rfl rfl rfl g rfl rfl (r_call (args := [v25_23]) rfl rfl rfl (And.intro rfl True.intro) Tryz.call53 (sim53 H)) ?_
          intro v26_24 h24 nx24 H
          refine OJ.grd rfl rfl rfl g rfl rfl (r_un rfl rfl H) ?_
          intro v27_25 H
          exact OJ.weaken [(24, (some v24_22)), (25, (some v25_23)), (26, (some v26_24)), (27, (some v27_25)), (3, (some v3_1)), (6, (some v6_7)), (23, (some v22_18))] (And.intro rfl (And.intro rfl (And.intro rfl (And.intro rfl (And.intro rfl (And.intro rfl (And.intro rfl True.intro))))))) (next ((some v24_22), (some v25_23), (some v26_24), (some v27_25), ()) _ _ H)
        · refine OJ.no rfl rfl rfl g rfl rfl ?_
          refine OJ.no rfl rfl rfl g rfl rfl ?_
          refine OJ.no rfl rfl rfl g rfl rfl ?_
          refine OJ.no rfl rfl rfl g rfl rfl ?_
          exact OJ.weaken [(24, none), (25, none), (26, none), (27, none), (3, (some v3_1)), (6, (some v6_7)), (23, (some v22_18))] (And.intro rfl (And.intro rfl (And.intro rfl (And.intro rfl (And.intro rfl (And.intro rfl (And.intro rfl True.intro))))))) (next (none, none, none, none, ()) _ _ H)
    · rcases hG_true H with ⟨g, H⟩ | ⟨g, H⟩
      · refine OJ.grd rfl rfl rfl g rfl rfl (r_fieldAddr rfl rfl H) ?_
        intro v18_26 H
        refine OJ.grd rfl rfl rfl g rfl rfl (r_load rfl rfl H) ?_
        intro v19_27 H
        refine OJ.gfu rfl rfl rfl g rfl rfl (r_call (args := [v19_27]) rfl rfl rfl (And.intro rfl True.intro) Tryz.call53 (sim53 H)) ?_
        intro v20_28 h28 nx28 H
        refine OJ.grd rfl rfl rfl g rfl rfl (r_un rfl rfl H) ?_
        intro v21_29 H
        exact OJ.weaken [(18, (some v18_26)), (19, (some v19_27)), (20, (some v20_28)), (21, (some v21_29)), (3, (some v3_1)), (6, (some v6_7)), (17, (some v16_15))] (And.intro rfl (And.intro rfl (And.intro rfl (And.intro rfl (And.intro rfl (And.intro rfl (And.intro rfl True.intro))))))) (next ((some v18_26), (some v19_27), (some v20_28), (some v21_29), ()) _ _ H)
      · refine OJ.no rfl rfl rfl g rfl rfl ?_
        refine OJ.no rfl rfl rfl g rfl rfl ?_
        refine OJ.no rfl rfl rfl g rfl rfl ?_
        refine OJ.no rfl rfl rfl g rfl rfl ?_
        exact OJ.weaken [(18, none), (19, none), (20, none), (21, none), (3, (some v3_1)), (6, (some v6_7)), (17, (some v16_15))] (And.intro rfl (And.intro rfl (And.intro rfl (And.intro rfl (And.intro rfl (And.intro rfl (And.intro rfl True.intro))))))) (next (none, none, none, none, ()) _ _ H)
  · intro ⟨a3_10, a6_10, _u⟩ h nx H
    refine CJ.seq ?_
    refine CJ.region ?_
    refine OJ.rd rfl rfl rfl (r_load rfl rfl H) ?_
    intro v29_11 H
    refine OJ.rd rfl rfl rfl (r_load rfl rfl H) ?_
    intro v30_12 H
    refine OJ.rd rfl rfl rfl (r_build (vs := [(0, v29_11), (2, v30_12)]) rfl (And.intro rfl (And.intro rfl (And.intro rfl (And.intro rfl True.intro)))) H) ?_
    intro v31_13 H
    refine OJ.fu rfl rfl rfl (r_box rfl rfl H) ?_
    intro v32_14 h14 nx14 H
    refine OJ.mv rfl rfl rfl (r_assign rfl rfl) ?_
    refine OJ.mv rfl rfl rfl (r_assign rfl rfl) ?_
    refine OJ.fin ?_
    refine CJ.ret1 ?_
    exact ret_many (vs := [v32_14, (.int .i64 (.ofNat 0))]) [4, 5] (Or.inr rfl) rfl (And.intro rfl (And.intro rfl True.intro)) H

/-! 27 -/
noncomputable def H27  (h : Heap) (nx : Nat) (k : KV) : Bool :=
  hAlloc Tryz.prog 39 h nx fun v0_1 h1 nx1 =>
  hBuild Tryz.prog 39 [(0, (.int .i64 (.ofNat 2147483647))), (1, (.int .i64 (.ofNat 2147483647))), (2, (.int .i64 (.ofNat 2147483647)))] fun v1_2 =>
  storeK Tryz.prog 39 v0_1 v1_2 h1 fun h3 =>
  loadK Tryz.prog 39 v0_1 h3 fun r4 => k (resV [r4]) h3 nx1
theorem sim27 {h : Heap} {nx : Nat} {k : KV} (H : H27  h nx k = true) : ∃ v h' nx', k v h' nx' = true ∧ CallSim Tryz.prog 27 [] h nx v h' nx' := by
  refine fn_rule Tryz.func27 rfl rfl ?_
  refine CJ.seq ?_
  refine CJ.region ?_
  refine OJ.fu rfl rfl rfl (r_alloc1 rfl H) ?_
  intro v0_1 h1 nx1 H
  refine OJ.fin ?_
  refine CJ.seq ?_
  refine CJ.region ?_
  refine OJ.rd rfl rfl rfl (r_build (vs := [(0, (.int .i64 (.ofNat 2147483647))), (1, (.int .i64 (.ofNat 2147483647))), (2, (.int .i64 (.ofNat 2147483647)))]) rfl (And.intro rfl (And.intro rfl (And.intro rfl (And.intro rfl (And.intro rfl (And.intro rfl True.intro)))))) H) ?_
  intro v1_2 H
  refine OJ.wr rfl rfl (r_store rfl rfl rfl H) ?_
  intro h3 H
  refine OJ.fin ?_
  refine CJ.ret1 ?_
  obtain ⟨r4, H, l4⟩ := load_val H
  exact ret_gen (vs := [r4]) (Or.inr rfl) (And.intro (Exists.intro v0_1 (And.intro rfl l4)) True.intro) H

/-! 139 -/
noncomputable def H139_j6 (k : KV)  (a10_7 : Value) (h : Heap) (nx : Nat) : Bool :=
  k a10_7 h nx
noncomputable def H139_j12 (k : KV) (ih8 : Value → Value → Value → Heap → Nat → Bool) (a3_13 : Value) (a10_13 : Value) (a11_13 : Value) (h : Heap) (nx : Nat) : Bool :=
  binK Tryz.prog .add 3 (.tmp 79) (.const (.int .i64 (.ofNat 1))) a11_13 (.int .i64 (.ofNat 1)) fun v80_14 =>
  ih8 a3_13 a10_13 v80_14 h nx
noncomputable def H139_j10 (k : KV) (ih8 : Value → Value → Value → Heap → Nat → Bool) (a3_11 : Value) (a10_11 : Value) (a11_11 : Value) (h : Heap) (nx : Nat) : Bool :=
  binK Tryz.prog .mul 193 (.tmp 81) (.const (.int .u32 (.ofNat 2))) a10_11 (.int .u32 (.ofNat 2)) fun v82_15 =>
  hIndexAddr Tryz.prog 255 a3_11 a11_11 fun v85_16 =>
  loadK Tryz.prog 4 v85_16 h fun v86_17 =>
  hUn Tryz.prog .not v86_17 fun v87_18 =>
  hIf v87_18 (fun _ => binK Tryz.prog .add 193 (.tmp 88) (.const (.int .u32 (.ofNat 1))) v82_15 (.int .u32 (.ofNat 1)) fun v89_19 =>
  H139_j12 k ih8 a3_11 v89_19 a11_11 h nx) (fun _ => H139_j12 k ih8 a3_11 v82_15 a11_11 h nx)
noncomputable def H139_l8 (k : KV)  (n : Nat) : Value → Value → Value → Heap → Nat → Bool :=
  Nat.rec (motive := fun _ => Value → Value → Value → Heap → Nat → Bool) (fun _ _ _ _ _ => false) (fun _ ih8 a3_9 a10_9 a11_9 h nx => binK Tryz.prog .lss 3 (.tmp 77) (.const (.int .i64 (.ofNat 32))) a11_9 (.int .i64 (.ofNat 32)) fun v78_20 =>
  hIf v78_20 (fun _ => H139_j10 k ih8 a3_9 a10_9 a11_9 h nx) (fun _ => H139_j6 k  a10_9 h nx)) n
noncomputable def H139_j4 (k : KV)  (a3_5 : Value) (h : Heap) (nx : Nat) : Bool :=
  H139_l8 k  200000 a3_5 (.int .u32 (.ofNat 0)) (.int .i64 (.ofNat 0)) h nx
noncomputable def H139_j25 (k : KV) (ih21 : Value → Value → Value → Heap → Nat → Bool) (a0_26 : Value) (a3_26 : Value) (a5_26 : Value) (h : Heap) (nx : Nat) : Bool :=
  binK Tryz.prog .add 3 (.tmp 25) (.const (.int .i64 (.ofNat 1))) a5_26 (.int .i64 (.ofNat 1)) fun v26_27 =>
  ih21 a0_26 a3_26 v26_27 h nx
noncomputable def H139_j48 (k : KV) (ih21 : Value → Value → Value → Heap → Nat → Bool) (ih44 : Value → Value → Value → Value → Heap → Nat → Bool) (a0_49 : Value) (a3_49 : Value) (a5_49 : Value) (a9_49 : Value) (h : Heap) (nx : Nat) : Bool :=
  binK Tryz.prog .add 3 (.tmp 61) (.const (.int .i64 (.ofNat 1))) a9_49 (.int .i64 (.ofNat 1)) fun v62_50 =>
  ih44 a0_49 a3_49 a5_49 v62_50 h nx
noncomputable def H139_j46 (k : KV) (ih21 : Value → Value → Value → Heap → Nat → Bool) (ih44 : Value → Value → Value → Value → Heap → Nat → Bool) (a0_47 : Value) (a3_47 : Value) (a5_47 : Value) (a9_47 : Value) (h : Heap) (nx : Nat) : Bool :=
  binK Tryz.prog .sub 3 (.const (.int .i64 (.ofNat 31))) (.tmp 63) (.int .i64 (.ofNat 31)) a9_47 fun v64_51 =>
  hConv Tryz.prog 3 151 v64_51 h fun v65_52 =>
  binK Tryz.prog .shr 3 (.const (.int .i64 (.ofNat 79764919))) (.tmp 65) (.int .i64 (.ofNat 79764919)) v65_52 fun v66_53 =>
  binK Tryz.prog .rem 3 (.tmp 66) (.const (.int .i64 (.ofNat 2))) v66_53 (.int .i64 (.ofNat 2)) fun v67_54 =>
  binK Tryz.prog .eql 3 (.tmp 67) (.const (.int .i64 (.ofNat 1))) v67_54 (.int .i64 (.ofNat 1)) fun v68_55 =>
  hIf v68_55 (fun _ => hIndexAddr Tryz.prog 255 a3_47 a9_47 fun v73_56 =>
  loadK Tryz.prog 4 v73_56 h fun v74_57 =>
  hUn Tryz.prog .not v74_57 fun v75_58 =>
  hIndexAddr Tryz.prog 255 a3_47 a9_47 fun v76_59 =>
  storeK Tryz.prog 4 v76_59 v75_58 h fun h60 =>
  H139_j48 k ih21 ih44 a0_47 a3_47 a5_47 a9_47 h60 nx) (fun _ => H139_j48 k ih21 ih44 a0_47 a3_47 a5_47 a9_47 h nx)
noncomputable def H139_l44 (k : KV) (ih21 : Value → Value → Value → Heap → Nat → Bool) (n : Nat) : Value → Value → Value → Value → Heap → Nat → Bool :=
  Nat.rec (motive := fun _ => Value → Value → Value → Value → Heap → Nat → Bool) (fun _ _ _ _ _ _ => false) (fun _ ih44 a0_45 a3_45 a5_45 a9_45 h nx => binK Tryz.prog .lss 3 (.tmp 59) (.const (.int .i64 (.ofNat 32))) a9_45 (.int .i64 (.ofNat 32)) fun v60_61 =>
  hIf v60_61 (fun _ => H139_j46 k ih21 ih44 a0_45 a3_45 a5_45 a9_45 h nx) (fun _ => H139_j25 k ih21 a0_45 a3_45 a5_45 h nx)) n
noncomputable def H139_j40 (k : KV) (ih21 : Value → Value → Value → Heap → Nat → Bool) (a0_41 : Value) (a3_41 : Value) (a5_41 : Value) (a7_41 : Value) (h : Heap) (nx : Nat) : Bool :=
  hIndexAddr Tryz.prog 255 a3_41 (.int .i64 (.ofNat 31)) fun v57_42 =>
  storeK Tryz.prog 4 v57_42 (.bool false) h fun h43 =>
  hIf a7_41 (fun _ => H139_l44 k ih21 200000 a0_41 a3_41 a5_41 (.int .i64 (.ofNat 0)) h43 nx) (fun _ => H139_j25 k ih21 a0_41 a3_41 a5_41 h43 nx)
noncomputable def H139_j66 (k : KV) (ih21 : Value → Value → Value → Heap → Nat → Bool) (ih62 : Value → Value → Value → Value → Value → Heap → Nat → Bool) (a0_67 : Value) (a3_67 : Value) (a5_67 : Value) (a7_67 : Value) (a8_67 : Value) (h : Heap) (nx : Nat) : Bool :=
  binK Tryz.prog .add 3 (.tmp 46) (.const (.int .i64 (.ofNat 1))) a8_67 (.int .i64 (.ofNat 1)) fun v47_68 =>
  ih62 a0_67 a3_67 a5_67 a7_67 v47_68 h nx
noncomputable def H139_j64 (k : KV) (ih21 : Value → Value → Value → Heap → Nat → Bool) (ih62 : Value → Value → Value → Value → Value → Heap → Nat → Bool) (a0_65 : Value) (a3_65 : Value) (a5_65 : Value) (a7_65 : Value) (a8_65 : Value) (h : Heap) (nx : Nat) : Bool :=
  binK Tryz.prog .add 3 (.tmp 51) (.const (.int .i64 (.ofNat 1))) a8_65 (.int .i64 (.ofNat 1)) fun v52_69 =>
  hIndexAddr Tryz.prog 255 a3_65 v52_69 fun v53_70 =>
  loadK Tryz.prog 4 v53_70 h fun v54_71 =>
  hIndexAddr Tryz.prog 255 a3_65 a8_65 fun v55_72 =>
  storeK Tryz.prog 4 v55_72 v54_71 h fun h73 =>
  H139_j66 k ih21 ih62 a0_65 a3_65 a5_65 a7_65 a8_65 h73 nx
noncomputable def H139_l62 (k : KV) (ih21 : Value → Value → Value → Heap → Nat → Bool) (n : Nat) : Value → Value → Value → Value → Value → Heap → Nat → Bool :=
  Nat.rec (motive := fun _ => Value → Value → Value → Value → Value → Heap → Nat → Bool) (fun _ _ _ _ _ _ _ => false) (fun _ ih62 a0_63 a3_63 a5_63 a7_63 a8_63 h nx => binK Tryz.prog .lss 3 (.tmp 44) (.const (.int .i64 (.ofNat 31))) a8_63 (.int .i64 (.ofNat 31)) fun v45_74 =>
  hIf v45_74 (fun _ => H139_j64 k ih21 ih62 a0_63 a3_63 a5_63 a7_63 a8_63 h nx) (fun _ => H139_j40 k ih21 a0_63 a3_63 a5_63 a7_63 h nx)) n
noncomputable def H139_j23 (k : KV) (ih21 : Value → Value → Value → Heap → Nat → Bool) (a0_24 : Value) (a3_24 : Value) (a5_24 : Value) (h : Heap) (nx : Nat) : Bool :=
  binK Tryz.prog .quo 3 (.tmp 28) (.const (.int .i64 (.ofNat 8))) a5_24 (.int .i64 (.ofNat 8)) fun v29_28 =>
  hIndexAddr Tryz.prog 22 a0_24 v29_28 fun v30_29 =>
  loadK Tryz.prog 5 v30_29 h fun v31_30 =>
  binK Tryz.prog .rem 3 (.tmp 32) (.const (.int .i64 (.ofNat 8))) a5_24 (.int .i64 (.ofNat 8)) fun v33_31 =>
  binK Tryz.prog .sub 3 (.const (.int .i64 (.ofNat 7))) (.tmp 33) (.int .i64 (.ofNat 7)) v33_31 fun v34_32 =>
  hConv Tryz.prog 3 151 v34_32 h fun v35_33 =>
  binK Tryz.prog .shr 5 (.tmp 31) (.tmp 35) v31_30 v35_33 fun v36_34 =>
  binK Tryz.prog .rem 5 (.tmp 36) (.const (.int .u8 (.ofNat 2))) v36_34 (.int .u8 (.ofNat 2)) fun v37_35 =>
  binK Tryz.prog .eql 5 (.tmp 37) (.const (.int .u8 (.ofNat 1))) v37_35 (.int .u8 (.ofNat 1)) fun v38_36 =>
  hIndexAddr Tryz.prog 255 a3_24 (.int .i64 (.ofNat 0)) fun v40_37 =>
  loadK Tryz.prog 4 v40_37 h fun v41_38 =>
  binK Tryz.prog .neq 4 (.tmp 41) (.tmp 42) v41_38 v38_36 fun v43_39 =>
  H139_l62 k ih21 200000 a0_24 a3_24 a5_24 v43_39 (.int .i64 (.ofNat 0)) h nx
noncomputable def H139_l21 (k : KV)  (n : Nat) : Value → Value → Value → Heap → Nat → Bool :=
  Nat.rec (motive := fun _ => Value → Value → Value → Heap → Nat → Bool) (fun _ _ _ _ _ => false) (fun _ ih21 a0_22 a3_22 a5_22 h nx => lenK Tryz.prog 22 a0_22 h fun v22_75 =>
  binK Tryz.prog .mul 3 (.const (.int .i64 (.ofNat 8))) (.tmp 22) (.int .i64 (.ofNat 8)) v22_75 fun v23_76 =>
  binK Tryz.prog .lss 3 (.tmp 20) (.tmp 23) a5_22 v23_76 fun v24_77 =>
  hIf v24_77 (fun _ => H139_j23 k ih21 a0_22 a3_22 a5_22 h nx) (fun _ => H139_j4 k  a3_22 h nx)) n
noncomputable def H139_j2 (k : KV)  (a0_3 : Value) (a3_3 : Value) (h : Heap) (nx : Nat) : Bool :=
  H139_l21 k  200000 a0_3 a3_3 (.int .i64 (.ofNat 0)) h nx
noncomputable def H139_j82 (k : KV) (ih78 : Value → Value → Value → Heap → Nat → Bool) (a0_83 : Value) (a3_83 : Value) (a4_83 : Value) (h : Heap) (nx : Nat) : Bool :=
  binK Tryz.prog .add 3 (.tmp 15) (.const (.int .i64 (.ofNat 1))) a4_83 (.int .i64 (.ofNat 1)) fun v16_84 =>
  ih78 a0_83 a3_83 v16_84 h nx
noncomputable def H139_j80 (k : KV) (ih78 : Value → Value → Value → Heap → Nat → Bool) (a0_81 : Value) (a3_81 : Value) (a4_81 : Value) (h : Heap) (nx : Nat) : Bool :=
  hIndexAddr Tryz.prog 255 a3_81 a4_81 fun v19_85 =>
  storeK Tryz.prog 4 v19_85 (.bool true) h fun h86 =>
  H139_j82 k ih78 a0_81 a3_81 a4_81 h86 nx
noncomputable def H139_l78 (k : KV)  (n : Nat) : Value → Value → Value → Heap → Nat → Bool :=
  Nat.rec (motive := fun _ => Value → Value → Value → Heap → Nat → Bool) (fun _ _ _ _ _ => false) (fun _ ih78 a0_79 a3_79 a4_79 h nx => binK Tryz.prog .lss 3 (.tmp 13) (.const (.int .i64 (.ofNat 32))) a4_79 (.int .i64 (.ofNat 32)) fun v14_87 =>
  hIf v14_87 (fun _ => H139_j80 k ih78 a0_79 a3_79 a4_79 h nx) (fun _ => H139_j2 k  a0_79 a3_79 h nx)) n
noncomputable def H139 (a0 : Value) (h : Heap) (nx : Nat) (k : KV) : Bool :=
  hMakeSlice Tryz.prog 255 (.int .i64 (.ofNat 32)) (.int .i64 (.ofNat 32)) h nx fun v12_1 h1 nx1 =>
  H139_l78 k  200000 a0 v12_1 (.int .i64 (.ofNat 0)) h1 nx1
theorem sim139 {a0 : Value} {h : Heap} {nx : Nat} {k : KV} (H : H139 a0 h nx k = true) : ∃ v h' nx', k v h' nx' = true ∧ CallSim Tryz.prog 139 [a0] h nx v h' nx' := by
  refine fn_rule Tryz.func139 rfl rfl ?_
  refine CJ.seq ?_
  refine CJ.region ?_
  refine OJ.mv rfl rfl rfl (r_assign rfl rfl) ?_
  refine OJ.fin ?_
  refine CJ.seq ?_
  refine CJ.region ?_
  refine OJ.fu rfl rfl rfl (r_makeSlice rfl rfl rfl H) ?_
  intro v12_1 h1 nx1 H
  refine OJ.mv rfl rfl rfl (r_assign rfl rfl) ?_
  refine OJ.fin ?_
  refine CJ.seq (CJ.cut (X := Value × Value × Unit) (fun x h nx => H139_j2 k  x.1 x.2.1 h nx) (fun x => [(0, some x.1), (3, some x.2.1)]) ?_ ?_)
  · refine CJ.seq ?_
    refine CJ.region ?_
    refine OJ.mv rfl rfl rfl (r_assign rfl rfl) ?_
    refine OJ.fin ?_
    refine CJ.block ?_
    refine CJ.weaken [(0, (some a0)), (3, (some v12_1)), (4, (some (.int .i64 (.ofNat 0))))] (And.intro rfl (And.intro rfl (And.intro rfl True.intro))) ?_
    refine CJ.loop_ind (X := Value × Value × Value × Unit) (fun n x h nx => H139_l78 k  n x.1 x.2.1 x.2.2.1 h nx) (fun x => [(0, some x.1), (3, some x.2.1), (4, some x.2.2.1)]) (fun _ _ _ => rfl) ?_ 200000 (a0, v12_1, (.int .i64 (.ofNat 0)), ()) _ _ H
    intro ih78n ih78p ⟨a0_79, a3_79, a4_79, _u⟩ h nx H
    let ih78 := H139_l78 k  ih78n
    refine CJ.seq (CJ.cut (X := Value × Value × Value × Unit) (fun x h nx => H139_j80 k ih78 x.1 x.2.1 x.2.2.1 h nx) (fun x => [(0, some x.1), (3, some x.2.1), (4, some x.2.2.1)]) ?_ ?_)
    · refine CJ.seq ?_
      refine CJ.region ?_
      refine OJ.mv rfl rfl rfl (r_move rfl rfl) ?_
      refine OJ.rd rfl rfl rfl (r_bin rfl rfl rfl H) ?_
      intro v14_87 H
      refine OJ.fin ?_
      refine CJ.ite rfl H (fun H => ?_) (fun H => ?_)
      · exact CJ.skip [(0, (some a0_79)), (3, (some a3_79)), (4, (some a4_79))] (And.intro rfl (And.intro rfl (And.intro rfl True.intro))) (Exists.intro (a0_79, a3_79, a4_79, ()) (And.intro rfl H))
      · exact CJ.exit [(0, (some a0_79)), (3, (some a3_79))] (And.intro rfl (And.intro rfl True.intro)) (Exists.intro (a0_79, a3_79, ()) (And.intro rfl H))
    · intro ⟨a0_81, a3_81, a4_81, _u⟩ h nx H
      refine CJ.seq (CJ.cut (X := Value × Value × Value × Unit) (fun x h nx => H139_j82 k ih78 x.1 x.2.1 x.2.2.1 h nx) (fun x => [(0, some x.1), (3, some x.2.1), (4, some x.2.2.1)]) ?_ ?_)
      · refine CJ.block ?_
        refine CJ.region ?_
        refine OJ.mv rfl rfl rfl (r_move rfl rfl) ?_
        refine OJ.mv rfl rfl rfl (r_move rfl rfl) ?_
        refine OJ.rd rfl rfl rfl (r_indexAddr rfl rfl rfl H) ?_
        intro v19_85 H
        refine OJ.wr rfl rfl (r_store rfl rfl rfl H) ?_
        intro h86 H
        exact OJ.done [(0, (some a0_81)), (3, (some a3_81)), (4, (some a4_81))] (And.intro rfl (And.intro rfl (And.intro rfl True.intro))) (Exists.intro (a0_81, a3_81, a4_81, ()) (And.intro rfl H))
      · intro ⟨a0_83, a3_83, a4_83, _u⟩ h nx H
        refine CJ.region ?_
        refine OJ.mv rfl rfl rfl (r_move rfl rfl) ?_
        refine OJ.rd rfl rfl rfl (r_bin rfl rfl rfl H) ?_
        intro v16_84 H
        refine OJ.mv rfl rfl rfl (r_assign rfl rfl) ?_
        exact OJ.done [(0, (some a0_83)), (3, (some a3_83)), (4, (some v16_84))] (And.intro rfl (And.intro rfl (And.intro rfl True.intro))) (ih78p (a0_83, a3_83, v16_84, ()) _ _ H)
  · intro ⟨a0_3, a3_3, _u⟩ h nx H
    refine CJ.seq (CJ.cut (X := Value × Unit) (fun x h nx => H139_j4 k  x.1 h nx) (fun x => [(3, some x.1)]) ?_ ?_)
    · refine CJ.seq ?_
      refine CJ.region ?_
      refine OJ.mv rfl rfl rfl (r_assign rfl rfl) ?_
      refine OJ.fin ?_
      refine CJ.block ?_
      refine CJ.weaken [(0, (some a0_3)), (3, (some a3_3)), (5, (some (.int .i64 (.ofNat 0))))] (And.intro rfl (And.intro rfl (And.intro rfl True.intro))) ?_
      refine CJ.loop_ind (X := Value × Value × Value × Unit) (fun n x h nx => H139_l21 k  n x.1 x.2.1 x.2.2.1 h nx) (fun x => [(0, some x.1), (3, some x.2.1), (5, some x.2.2.1)]) (fun _ _ _ => rfl) ?_ 200000 (a0_3, a3_3, (.int .i64 (.ofNat 0)), ()) _ _ H
      intro ih21n ih21p ⟨a0_22, a3_22, a5_22, _u⟩ h nx H
      let ih21 := H139_l21 k  ih21n
      refine CJ.seq (CJ.cut (X := Value × Value × Value × Unit) (fun x h nx => H139_j23 k ih21 x.1 x.2.1 x.2.2.1 h nx) (fun x => [(0, some x.1), (3, some x.2.1), (5, some x.2.2.1)]) ?_ ?_)
      · refine CJ.seq ?_
        refine CJ.region ?_
        refine OJ.mv rfl rfl rfl (r_move rfl rfl) ?_
        refine OJ.mv rfl rfl rfl (r_move rfl rfl) ?_
        refine OJ.rd rfl rfl rfl (r_len (x := default) rfl rfl (And.intro rfl True.intro) rfl H) ?_
        intro v22_75 H
        refine OJ.rd rfl rfl rfl (r_bin rfl rfl rfl H) ?_
        intro v23_76 H
        refine OJ.rd rfl rfl rfl (r_bin rfl rfl rfl H) ?_
        intro v24_77 H
        refine OJ.fin ?_
        refine CJ.ite rfl H (fun H => ?_) (fun H => ?_)
        · exact CJ.skip [(0, (some a0_22)), (3, (some a3_22)), (5, (some a5_22))] (And.intro rfl (And.intro rfl (And.intro rfl True.intro))) (Exists.intro (a0_22, a3_22, a5_22, ()) (And.intro rfl H))
        · exact CJ.exit [(3, (some a3_22))] (And.intro rfl True.intro) (Exists.intro (a3_22, ()) (And.intro rfl H))
      · intro ⟨a0_24, a3_24, a5_24, _u⟩ h nx H
        refine CJ.seq (CJ.cut (X := Value × Value × Value × Unit) (fun x h nx => H139_j25 k ih21 x.1 x.2.1 x.2.2.1 h nx) (fun x => [(0, some x.1), (3, some x.2.1), (5, some x.2.2.1)]) ?_ ?_)
        · refine CJ.block ?_
          refine CJ.seq ?_
          refine CJ.region ?_
          refine OJ.mv rfl rfl rfl (r_move rfl rfl) ?_
          refine OJ.mv rfl rfl rfl (r_move rfl rfl) ?_
          refine OJ.rd rfl rfl rfl (r_bin rfl rfl rfl H) ?_
          intro v29_28 H
          refine OJ.rd rfl rfl rfl (r_indexAddr rfl rfl rfl H) ?_
          intro v30_29 H
          refine OJ.rd rfl rfl rfl (r_load rfl rfl H) ?_
          intro v31_30 H
          refine OJ.mv rfl rfl rfl (r_move rfl rfl) ?_
          refine OJ.rd rfl rfl rfl (r_bin rfl rfl rfl H) ?_
          intro v33_31 H
          refine OJ.rd rfl rfl rfl (r_bin rfl rfl rfl H) ?_
          intro v34_32 H
          refine OJ.rd rfl rfl rfl (r_conv rfl rfl H) ?_
          intro v35_33 H
          refine OJ.rd rfl rfl rfl (r_bin rfl rfl rfl H) ?_
          intro v36_34 H
          refine OJ.rd rfl rfl rfl (r_bin rfl rfl rfl H) ?_
          intro v37_35 H
          refine OJ.rd rfl rfl rfl (r_bin rfl rfl rfl H) ?_
          intro v38_36 H
          refine OJ.mv rfl rfl rfl (r_assign rfl rfl) ?_
          refine OJ.fin ?_
          refine CJ.seq ?_
          refine CJ.region ?_
          refine OJ.mv rfl rfl rfl (r_move rfl rfl) ?_
          refine OJ.rd rfl rfl rfl (r_indexAddr rfl rfl rfl H) ?_
          intro v40_37 H
          refine OJ.rd rfl rfl rfl (r_load rfl rfl H) ?_
          intro v41_38 H
          refine OJ.mv rfl rfl rfl (r_move rfl rfl) ?_
          refine OJ.rd rfl rfl rfl (r_bin rfl rfl rfl H) ?_
          intro v43_39 H
          refine OJ.mv rfl rfl rfl (r_assign rfl rfl) ?_
          refine OJ.fin ?_
          refine CJ.seq (CJ.cut (X := Value × Value × Value × Value × Unit) (fun x h nx => H139_j40 k ih21 x.1 x.2.1 x.2.2.1 x.2.2.2.1 h nx) (fun x => [(0, some x.1), (3, some x.2.1), (5, some x.2.2.1), (7, some x.2.2.2.1)]) ?_ ?_)
          · refine CJ.seq ?_
            refine CJ.region ?_
            refine OJ.mv rfl rfl rfl (r_assign rfl rfl) ?_
            refine OJ.fin ?_
            refine CJ.block ?_
            refine CJ.weaken [(0, (some a0_24)), (3, (some a3_24)), (5, (some a5_24)), (7, (some v43_39)), (8, (some (.int .i64 (.ofNat 0))))] (And.intro rfl (And.intro rfl (And.intro rfl (And.intro rfl (And.intro rfl True.intro))))) ?_
            refine CJ.loop_ind (X := Value × Value × Value × Value × Value × Unit) (fun n x h nx => H139_l62 k ih21 n x.1 x.2.1 x.2.2.1 x.2.2.2.1 x.2.2.2.2.1 h nx) (fun x => [(0, some x.1), (3, some x.2.1), (5, some x.2.2.1), (7, some x.2.2.2.1), (8, some x.2.2.2.2.1)]) (fun _ _ _ => rfl) ?_ 200000 (a0_24, a3_24, a5_24, v43_39, (.int .i64 (.ofNat 0)), ()) _ _ H
            intro ih62n ih62p ⟨a0_63, a3_63, a5_63, a7_63, a8_63, _u⟩ h nx H
            let ih62 := H139_l62 k ih21 ih62n
            refine CJ.seq (CJ.cut (X := Value × Value × Value × Value × Value × Unit) (fun x h nx => H139_j64 k ih21 ih62 x.1 x.2.1 x.2.2.1 x.2.2.2.1 x.2.2.2.2.1 h nx) (fun x => [(0, some x.1), (3, some x.2.1), (5, some x.2.2.1), (7, some x.2.2.2.1), (8, some x.2.2.2.2.1)]) ?_ ?_)
            · refine CJ.seq ?_
              refine CJ.region ?_
              refine OJ.mv rfl rfl rfl (r_move rfl rfl) ?_
              refine OJ.rd rfl rfl rfl (r_bin rfl rfl rfl H) ?_
              intro v45_74 H
              refine OJ.fin ?_
              refine CJ.ite rfl H (fun H => ?_) (fun H => ?_)
              · exact CJ.skip [(0, (some a0_63)), (3, (some a3_63)), (5, (some a5_63)), (7, (some a7_63)), (8, (some a8_63))] (And.intro rfl (And.intro rfl (And.intro rfl (And.intro rfl (And.intro rfl True.intro))))) (Exists.intro (a0_63, a3_63, a5_63, a7_63, a8_63, ()) (And.intro rfl H))
              · exact CJ.exit [(0, (some a0_63)), (3, (some a3_63)), (5, (some a5_63)), (7, (some a7_63))] (And.intro rfl (And.intro rfl (And.intro rfl (And.intro rfl True.intro)))) (Exists.intro (a0_63, a3_63, a5_63, a7_63, ()) (And.intro rfl H))
            · intro ⟨a0_65, a3_65, a5_65, a7_65, a8_65, _u⟩ h nx H
              refine CJ.seq (CJ.cut (X := Value × Value × Value × Value × Value × Unit) (fun x h nx => H139_j66 k ih21 ih62 x.1 x.2.1 x.2.2.1 x.2.2.2.1 x.2.2.2.2.1 h nx) (fun x => [(0, some x.1), (3, some x.2.1), (5, some x.2.2.1), (7, some x.2.2.2.1), (8, some x.2.2.2.2.1)]) ?_ ?_)
              · refine CJ.block ?_
                refine CJ.region ?_
                refine OJ.mv rfl rfl rfl (r_move rfl rfl) ?_
                refine OJ.mv rfl rfl rfl (r_move rfl rfl) ?_
                refine OJ.mv rfl rfl rfl (r_move rfl rfl) ?_
                refine OJ.mv rfl rfl rfl (r_move rfl rfl) ?_
                refine OJ.rd rfl rfl rfl (r_bin rfl rfl rfl H) ?_
                intro v52_69 H
                refine OJ.rd rfl rfl rfl (r_indexAddr rfl rfl rfl H) ?_
                intro v53_70 H
                refine OJ.rd rfl rfl rfl (r_load rfl rfl H) ?_
                intro v54_71 H
                refine OJ.rd rfl rfl rfl (r_indexAddr rfl rfl rfl H) ?_
                intro v55_72 H
                refine OJ.wr rfl rfl (r_store rfl rfl rfl H) ?_
                intro h73 H
                exact OJ.done [(0, (some a0_65)), (3, (some a3_65)), (5, (some a5_65)), (7, (some a7_65)), (8, (some a8_65))] (And.intro rfl (And.intro rfl (And.intro rfl (And.intro rfl (And.intro rfl True.intro))))) (Exists.intro (a0_65, a3_65, a5_65, a7_65, a8_65, ()) (And.intro rfl H))
              · intro ⟨a0_67, a3_67, a5_67, a7_67, a8_67, _u⟩ h nx H
                refine CJ.region ?_
                refine OJ.mv rfl rfl rfl (r_move rfl rfl) ?_
                refine OJ.rd rfl rfl rfl (r_bin rfl rfl rfl H) ?_
                intro v47_68 H
                refine OJ.mv rfl rfl rfl (r_assign rfl rfl) ?_
                exact OJ.done [(0, (some a0_67)), (3, (some a3_67)), (5, (some a5_67)), (7, (some a7_67)), (8, (some v47_68))] (And.intro rfl (And.intro rfl (And.intro rfl (And.intro rfl (And.intro rfl True.intro))))) (ih62p (a0_67, a3_67, a5_67, a7_67, v47_68, ()) _ _ H)
          · intro ⟨a0_41, a3_41, a5_41, a7_41, _u⟩ h nx H
            refine CJ.seq ?_
            refine CJ.region ?_
            refine OJ.mv rfl rfl rfl (r_move rfl rfl) ?_
            refine OJ.rd rfl rfl rfl (r_indexAddr rfl rfl rfl H) ?_
            intro v57_42 H
            refine OJ.wr rfl rfl (r_store rfl rfl rfl H) ?_
            intro h43 H
            refine OJ.fin ?_
            refine CJ.seq ?_
            refine CJ.region ?_
            refine OJ.mv rfl rfl rfl (r_move rfl rfl) ?_
            refine OJ.fin ?_
            refine CJ.ite rfl H (fun H => ?_) (fun H => ?_)
            · refine CJ.seq ?_
              refine CJ.region ?_
              refine OJ.mv rfl rfl rfl (r_assign rfl rfl) ?_
              refine OJ.fin ?_
              refine CJ.block ?_
              refine CJ.weaken [(0, (some a0_41)), (3, (some a3_41)), (5, (some a5_41)), (9, (some (.int .i64 (.ofNat 0))))] (And.intro rfl (And.intro rfl (And.intro rfl (And.intro rfl True.intro)))) ?_
              refine CJ.loop_ind (X := Value × Value × Value × Value × Unit) (fun n x h nx => H139_l44 k ih21 n x.1 x.2.1 x.2.2.1 x.2.2.2.1 h nx) (fun x => [(0, some x.1), (3, some x.2.1), (5, some x.2.2.1), (9, some x.2.2.2.1)]) (fun _ _ _ => rfl) ?_ 200000 (a0_41, a3_41, a5_41, (.int .i64 (.ofNat 0)), ()) _ _ H
              intro ih44n ih44p ⟨a0_45, a3_45, a5_45, a9_45, _u⟩ h nx H
              let ih44 := H139_l44 k ih21 ih44n
              refine CJ.seq (CJ.cut (X := Value × Value × Value × Value × Unit) (fun x h nx => H139_j46 k ih21 ih44 x.1 x.2.1 x.2.2.1 x.2.2.2.1 h nx) (fun x => [(0, some x.1), (3, some x.2.1), (5, some x.2.2.1), (9, some x.2.2.2.1)]) ?_ ?_)
              · refine CJ.seq ?_
                refine CJ.region ?_
                refine OJ.mv rfl rfl rfl (r_move rfl rfl) ?_
                refine OJ.rd rfl rfl rfl (r_bin rfl rfl rfl H) ?_
                intro v60_61 H
                refine OJ.fin ?_
                refine CJ.ite rfl H (fun H => ?_) (fun H => ?_)
                · exact CJ.skip [(0, (some a0_45)), (3, (some a3_45)), (5, (some a5_45)), (9, (some a9_45))] (And.intro rfl (And.intro rfl (And.intro rfl (And.intro rfl True.intro)))) (Exists.intro (a0_45, a3_45, a5_45, a9_45, ()) (And.intro rfl H))
                · exact CJ.exit [(0, (some a0_45)), (3, (some a3_45)), (5, (some a5_45))] (And.intro rfl (And.intro rfl (And.intro rfl True.intro))) (Exists.intro (a0_45, a3_45, a5_45, ()) (And.intro rfl H))
              · intro ⟨a0_47, a3_47, a5_47, a9_47, _u⟩ h nx H
                refine CJ.seq (CJ.cut (X := Value × Value × Value × Value × Unit) (fun x h nx => H139_j48 k ih21 ih44 x.1 x.2.1 x.2.2.1 x.2.2.2.1 h nx) (fun x => [(0, some x.1), (3, some x.2.1), (5, some x.2.2.1), (9, some x.2.2.2.1)]) ?_ ?_)
                · refine CJ.block ?_
                  refine CJ.seq ?_
                  refine CJ.region ?_
                  refine OJ.mv rfl rfl rfl (r_move rfl rfl) ?_
                  refine OJ.rd rfl rfl rfl (r_bin rfl rfl rfl H) ?_
                  intro v64_51 H
                  refine OJ.rd rfl rfl rfl (r_conv rfl rfl H) ?_
                  intro v65_52 H
                  refine OJ.rd rfl rfl rfl (r_bin rfl rfl rfl H) ?_
                  intro v66_53 H
                  refine OJ.rd rfl rfl rfl (r_bin rfl rfl rfl H) ?_
                  intro v67_54 H
                  refine OJ.rd rfl rfl rfl (r_bin rfl rfl rfl H) ?_
                  intro v68_55 H
                  refine OJ.fin ?_
                  refine CJ.ite rfl H (fun H => ?_) (fun H => ?_)
                  · refine CJ.region ?_
                    refine OJ.mv rfl rfl rfl (r_move rfl rfl) ?_
                    refine OJ.mv rfl rfl rfl (r_move rfl rfl) ?_
                    refine OJ.mv rfl rfl rfl (r_move rfl rfl) ?_
                    refine OJ.mv rfl rfl rfl (r_move rfl rfl) ?_
                    refine OJ.rd rfl rfl rfl (r_indexAddr rfl rfl rfl H) ?_
                    intro v73_56 H
                    refine OJ.rd rfl rfl rfl (r_load rfl rfl H) ?_
                    intro v74_57 H
                    refine OJ.rd rfl rfl rfl (r_un rfl rfl H) ?_
                    intro v75_58 H
                    refine OJ.rd rfl rfl rfl (r_indexAddr rfl rfl rfl H) ?_
                    intro v76_59 H
                    refine OJ.wr rfl rfl (r_store rfl rfl rfl H) ?_
                    intro h60 H
                    exact OJ.done [(0, (some a0_47)), (3, (some a3_47)), (5, (some a5_47)), (9, (some a9_47))] (And.intro rfl (And.intro rfl (And.intro rfl (And.intro rfl True.intro)))) (Exists.intro (a0_47, a3_47, a5_47, a9_47, ()) (And.intro rfl H))
                  · exact CJ.skip [(0, (some a0_47)), (3, (some a3_47)), (5, (some a5_47)), (9, (some a9_47))] (And.intro rfl (And.intro rfl (And.intro rfl (And.intro rfl True.intro)))) (Exists.intro (a0_47, a3_47, a5_47, a9_47, ()) (And.intro rfl H))
                · intro ⟨a0_49, a3_49, a5_49, a9_49, _u⟩ h nx H
                  refine CJ.region ?_
                  refine OJ.mv rfl rfl rfl (r_move rfl rfl) ?_
                  refine OJ.rd rfl rfl rfl (r_bin rfl rfl rfl H) ?_
                  intro v62_50 H
                  refine OJ.mv rfl rfl rfl (r_assign rfl rfl) ?_
                  exact OJ.done [(0, (some a0_49)), (3, (some a3_49)), (5, (some a5_49)), (9, (some v62_50))] (And.intro rfl (And.intro rfl (And.intro rfl (And.intro rfl True.intro)))) (ih44p (a0_49, a3_49, a5_49, v62_50, ()) _ _ H)
            · exact CJ.skip [(0, (some a0_41)), (3, (some a3_41)), (5, (some a5_41))] (And.intro rfl (And.intro rfl (And.intro rfl True.intro))) (Exists.intro (a0_41, a3_41, a5_41, ()) (And.intro rfl H))
        · intro ⟨a0_26, a3_26, a5_26, _u⟩ h nx H
          refine CJ.region ?_
          refine OJ.mv rfl rfl rfl (r_move rfl rfl) ?_
          refine OJ.rd rfl rfl rfl (r_bin rfl rfl rfl H) ?_
          intro v26_27 H
          refine OJ.mv rfl rfl rfl (r_assign rfl rfl) ?_
          exact OJ.done [(0, (some a0_26)), (3, (some a3_26)), (5, (some v26_27))] (And.intro rfl (And.intro rfl (And.intro rfl True.intro))) (ih21p (a0_26, a3_26, v26_27, ()) _ _ H)
    · intro ⟨a3_5, _u⟩ h nx H
      refine CJ.seq ?_
      refine CJ.region ?_
      refine OJ.mv rfl rfl rfl (r_assign rfl rfl) ?_
      refine OJ.fin ?_
      refine CJ.seq (CJ.cut (X := Value × Unit) (fun x h nx => H139_j6 k  x.1 h nx) (fun x => [(10, some x.1)]) ?_ ?_)
      · refine CJ.seq ?_
        refine CJ.region ?_
        refine OJ.mv rfl rfl rfl (r_assign rfl rfl) ?_
        refine OJ.fin ?_
        refine CJ.block ?_
        refine CJ.weaken [(3, (some a3_5)), (10, (some (.int .u32 (.ofNat 0)))), (11, (some (.int .i64 (.ofNat 0))))] (And.intro rfl (And.intro rfl (And.intro rfl True.intro))) ?_
        refine CJ.loop_ind (X := Value × Value × Value × Unit) (fun n x h nx => H139_l8 k  n x.1 x.2.1 x.2.2.1 h nx) (fun x => [(3, some x.1), (10, some x.2.1), (11, some x.2.2.1)]) (fun _ _ _ => rfl) ?_ 200000 (a3_5, (.int .u32 (.ofNat 0)), (.int .i64 (.ofNat 0)), ()) _ _ H
        intro ih8n ih8p ⟨a3_9, a10_9, a11_9, _u⟩ h nx H
        let ih8 := H139_l8 k  ih8n
        refine CJ.seq (CJ.cut (X := Value × Value × Value × Unit) (fun x h nx => H139_j10 k ih8 x.1 x.2.1 x.2.2.1 h nx) (fun x => [(3, some x.1), (10, some x.2.1), (11, some x.2.2.1)]) ?_ ?_)
        · refine CJ.seq ?_
          refine CJ.region ?_
          refine OJ.mv rfl rfl rfl (r_move rfl rfl) ?_
          refine OJ.rd rfl rfl rfl (r_bin rfl rfl rfl H) ?_
          intro v78_20 H
          refine OJ.fin ?_
          refine CJ.ite rfl H (fun H => ?_) (fun H => ?_)
          · exact CJ.skip [(3, (some a3_9)), (10, (some a10_9)), (11, (some a11_9))] (And.intro rfl (And.intro rfl (And.intro rfl True.intro))) (Exists.intro (a3_9, a10_9, a11_9, ()) (And.intro rfl H))
          · exact CJ.exit [(10, (some a10_9))] (And.intro rfl True.intro) (Exists.intro (a10_9, ()) (And.intro rfl H))
        · intro ⟨a3_11, a10_11, a11_11, _u⟩ h nx H
          refine CJ.seq (CJ.cut (X := Value × Value × Value × Unit) (fun x h nx => H139_j12 k ih8 x.1 x.2.1 x.2.2.1 h nx) (fun x => [(3, some x.1), (10, some x.2.1), (11, some x.2.2.1)]) ?_ ?_)
          · refine CJ.block ?_
            refine CJ.seq ?_
            refine CJ.region ?_
            refine OJ.mv rfl rfl rfl (r_move rfl rfl) ?_
            refine OJ.rd rfl rfl rfl (r_bin rfl rfl rfl H) ?_
            intro v82_15 H
            refine OJ.mv rfl rfl rfl (r_assign rfl rfl) ?_
            refine OJ.fin ?_
            refine CJ.seq ?_
            refine CJ.region ?_
            refine OJ.mv rfl rfl rfl (r_move rfl rfl) ?_
            refine OJ.mv rfl rfl rfl (r_move rfl rfl) ?_
            refine OJ.rd rfl rfl rfl (r_indexAddr rfl rfl rfl H) ?_
            intro v85_16 H
            refine OJ.rd rfl rfl rfl (r_load rfl rfl H) ?_
            intro v86_17 H
            refine OJ.rd rfl rfl rfl (r_un rfl rfl H) ?_
            intro v87_18 H
            refine OJ.fin ?_
            refine CJ.ite rfl H (fun H => ?_) (fun H => ?_)
            · refine CJ.region ?_
              refine OJ.mv rfl rfl rfl (r_move rfl rfl) ?_
              refine OJ.rd rfl rfl rfl (r_bin rfl rfl rfl H) ?_
              intro v89_19 H
              refine OJ.mv rfl rfl rfl (r_assign rfl rfl) ?_
              exact OJ.done [(3, (some a3_11)), (10, (some v89_19)), (11, (some a11_11))] (And.intro rfl (And.intro rfl (And.intro rfl True.intro))) (Exists.intro (a3_11, v89_19, a11_11, ()) (And.intro rfl H))
            · exact CJ.skip [(3, (some a3_11)), (10, (some v82_15)), (11, (some a11_11))] (And.intro rfl (And.intro rfl (And.intro rfl True.intro))) (Exists.intro (a3_11, v82_15, a11_11, ()) (And.intro rfl H))
          · intro ⟨a3_13, a10_13, a11_13, _u⟩ h nx H
            refine CJ.region ?_
            refine OJ.mv rfl rfl rfl (r_move rfl rfl) ?_
            refine OJ.rd rfl rfl rfl (r_bin rfl rfl rfl H) ?_
            intro v80_14 H
            refine OJ.mv rfl rfl rfl (r_assign rfl rfl) ?_
            exact OJ.done [(3, (some a3_13)), (10, (some a10_13)), (11, (some v80_14))] (And.intro rfl (And.intro rfl (And.intro rfl True.intro))) (ih8p (a3_13, a10_13, v80_14, ()) _ _ H)
      · intro ⟨a10_7, _u⟩ h nx H
        refine CJ.seq ?_
        refine CJ.region ?_
        refine OJ.mv rfl rfl rfl (r_move rfl rfl) ?_
        refine OJ.mv rfl rfl rfl (r_assign rfl rfl) ?_
        refine OJ.fin ?_
        refine CJ.ret1 ?_
        exact ret_one (Or.inr rfl) rfl rfl H

/-! 92 -/
noncomputable def H92 (a0 : Value) (h : Heap) (nx : Nat) (k : KV) : Bool :=
  H139 a0 h nx fun v5_1 h1 nx1 =>
  hBuildSlice Tryz.prog 22 0 [] h1 nx1 fun v6_2 h2 nx2 =>
  hAppend Tryz.prog 22 22 v6_2 a0 h2 nx2 fun v8_3 h3 nx3 =>
  binK Tryz.prog .shr 193 (.tmp 9) (.const (.int .u64 (.ofNat 24))) v5_1 (.int .u64 (.ofNat 24)) fun v10_4 =>
  hConv Tryz.prog 193 5 v10_4 h3 fun v11_5 =>
  binK Tryz.prog .shr 193 (.tmp 12) (.const (.int .u64 (.ofNat 16))) v5_1 (.int .u64 (.ofNat 16)) fun v13_6 =>
  hConv Tryz.prog 193 5 v13_6 h3 fun v14_7 =>
  binK Tryz.prog .shr 193 (.tmp 15) (.const (.int .u64 (.ofNat 8))) v5_1 (.int .u64 (.ofNat 8)) fun v16_8 =>
  hConv Tryz.prog 193 5 v16_8 h3 fun v17_9 =>
  hConv Tryz.prog 193 5 v5_1 h3 fun v19_10 =>
  hBuildSlice Tryz.prog 22 4 [(0, v11_5), (1, v14_7), (2, v17_9), (3, v19_10)] h3 nx3 fun v20_11 h11 nx11 =>
  hAppend Tryz.prog 22 22 v8_3 v20_11 h11 nx11 fun v21_12 h12 nx12 =>
  k v21_12 h12 nx12
theorem sim92 {a0 : Value} {h : Heap} {nx : Nat} {k : KV} (H : H92 a0 h nx k = true) : ∃ v h' nx', k v h' nx' = true ∧ CallSim Tryz.prog 92 [a0] h nx v h' nx' := by
  refine fn_rule Tryz.func92 rfl rfl ?_
  refine CJ.seq ?_
  refine CJ.region ?_
  refine OJ.mv rfl rfl rfl (r_assign rfl rfl) ?_
  refine OJ.fin ?_
  refine CJ.seq ?_
  refine CJ.region ?_
  refine OJ.mv rfl rfl rfl (r_move rfl rfl) ?_
  refine OJ.fu rfl rfl rfl (r_call (args := [a0]) rfl rfl rfl (And.intro rfl True.intro) Tryz.call139 (sim139 H)) ?_
  intro v5_1 h1 nx1 H
  refine OJ.mv rfl rfl rfl (r_assign rfl rfl) ?_
  refine OJ.fin ?_
  refine CJ.seq ?_
  refine CJ.region ?_
  refine OJ.fu rfl rfl rfl (r_buildSlice (vs := []) rfl True.intro H) ?_
  intro v6_2 h2 nx2 H
  refine OJ.mv rfl rfl rfl (r_move rfl rfl) ?_
  refine OJ.fu rfl rfl rfl (r_append1 rfl rfl (And.intro rfl (And.intro rfl True.intro)) rfl H) ?_
  intro v8_3 h3 nx3 H
  refine OJ.mv rfl rfl rfl (r_move rfl rfl) ?_
  refine OJ.rd rfl rfl rfl (r_bin rfl rfl rfl H) ?_
  intro v10_4 H
  refine OJ.rd rfl rfl rfl (r_conv rfl rfl H) ?_
  intro v11_5 H
  refine OJ.mv rfl rfl rfl (r_move rfl rfl) ?_
  refine OJ.rd rfl rfl rfl (r_bin rfl rfl rfl H) ?_
  intro v13_6 H
  refine OJ.rd rfl rfl rfl (r_conv rfl rfl H) ?_
  intro v14_7 H
  refine OJ.mv rfl rfl rfl (r_move rfl rfl) ?_
  refine OJ.rd rfl rfl rfl (r_bin rfl rfl rfl H) ?_
  intro v16_8 H
  refine OJ.rd rfl rfl rfl (r_conv rfl rfl H) ?_
  intro v17_9 H
  refine OJ.mv rfl rfl rfl (r_move rfl rfl) ?_
  refine OJ.rd rfl rfl rfl (r_conv rfl rfl H) ?_
  intro v19_10 H
  refine OJ.fu rfl rfl rfl (r_buildSlice (vs := [(0, v11_5), (1, v14_7), (2, v17_9), (3, v19_10)]) rfl (And.intro rfl (And.intro rfl (And.intro rfl (And.intro rfl (And.intro rfl (And.intro rfl (And.intro rfl (And.intro rfl True.intro)))))))) H) ?_
  intro v20_11 h11 nx11 H
  refine OJ.fu rfl rfl rfl (r_append1 rfl rfl (And.intro rfl (And.intro rfl True.intro)) rfl H) ?_
  intro v21_12 h12 nx12 H
  refine OJ.mv rfl rfl rfl (r_assign rfl rfl) ?_
  refine OJ.fin ?_
  refine CJ.ret1 ?_
  exact ret_one (Or.inr rfl) rfl rfl H

/-! 54 -/
noncomputable def H54_j5 (k : KV)  (a2_6 : Value) (a3_6 : Value) (h : Heap) (nx : Nat) : Bool :=
  hRet [a2_6, a3_6] h nx k
noncomputable def H54_j1 (k : KV)  (a0_2 : Value) (h : Heap) (nx : Nat) : Bool :=
  lenK Tryz.prog 22 a0_2 h fun v9_3 =>
  binK Tryz.prog .sub 3 (.tmp 9) (.const (.int .i64 (.ofNat 4))) v9_3 (.int .i64 (.ofNat 4)) fun v10_4 =>
  hSlice Tryz.prog h 22 a0_2 none (some v10_4) none fun v13_8 =>
  hSlice Tryz.prog h 22 a0_2 none (some v10_4) none fun v16_9 =>
  hConv Tryz.prog 22 9 a0_2 h fun v20_10 =>
  H92 v16_9 h nx fun v17_11 h11 nx11 =>
  hConv Tryz.prog 22 9 v17_11 h11 fun v18_12 =>
  binK Tryz.prog .eql 9 (.tmp 18) (.tmp 20) v18_12 v20_10 fun v21_13 =>
  hSlice Tryz.prog h11 22 a0_2 none (some v10_4) none fun v13_15 =>
  hEq v13_15 v13_8 fun _ => hConv Tryz.prog 22 9 a0_2 h11 fun v20_17 =>
  hEq v20_17 v20_10 fun _ => H54_j5 k  v13_8 v21_13 h11 nx11
noncomputable def H54 (a0 : Value) (h : Heap) (nx : Nat) (k : KV) : Bool :=
  lenK Tryz.prog 22 a0 h fun v6_18 =>
  binK Tryz.prog .lss 3 (.tmp 6) (.const (.int .i64 (.ofNat 4))) v6_18 (.int .i64 (.ofNat 4)) fun v7_19 =>
  hIf v7_19 (fun _ => false) (fun _ => H54_j1 k  a0 h nx)
theorem sim54 {a0 : Value} {h : Heap} {nx : Nat} {k : KV} (H : H54 a0 h nx k = true) : ∃ v h' nx', k v h' nx' = true ∧ CallSim Tryz.prog 54 [a0] h nx v h' nx' := by
  refine fn_rule Tryz.func54 rfl rfl ?_
  refine CJ.seq ?_
  refine CJ.region ?_
  refine OJ.mv rfl rfl rfl (r_assign rfl rfl) ?_
  refine OJ.mv rfl rfl rfl (r_assign rfl rfl) ?_
  refine OJ.fin ?_
  refine CJ.seq (CJ.cut (X := Value × Unit) (fun x h nx => H54_j1 k  x.1 h nx) (fun x => [(0, some x.1)]) ?_ ?_)
  · refine CJ.seq ?_
    refine CJ.region ?_
    refine OJ.mv rfl rfl rfl (r_move rfl rfl) ?_
    refine OJ.rd rfl rfl rfl (r_len (x := default) rfl rfl (And.intro rfl True.intro) rfl H) ?_
    intro v6_18 H
    refine OJ.rd rfl rfl rfl (r_bin rfl rfl rfl H) ?_
    intro v7_19 H
    refine OJ.fin ?_
    refine CJ.ite rfl H (fun H => ?_) (fun H => ?_)
    · cases H
    · exact CJ.skip [(0, (some a0))] (And.intro rfl True.intro) (Exists.intro (a0, ()) (And.intro rfl H))
  · intro ⟨a0_2, _u⟩ h nx H
    refine CJ.seq ?_
    refine CJ.region ?_
    refine OJ.mv rfl rfl rfl (r_move rfl rfl) ?_
    refine OJ.rd rfl rfl rfl (r_len (x := default) rfl rfl (And.intro rfl True.intro) rfl H) ?_
    intro v9_3 H
    refine OJ.rd rfl rfl rfl (r_bin rfl rfl rfl H) ?_
    intro v10_4 H
    refine OJ.mv rfl rfl rfl (r_assign rfl rfl) ?_
    refine OJ.fin ?_
    refine CJ.seq (CJ.cut (X := Value × Value × Unit) (fun x h nx => H54_j5 k  x.1 x.2.1 h nx) (fun x => [(2, some x.1), (3, some x.2.1)]) ?_ ?_)
    · refine DJ.hm [0, 0, 3, 0, 0, 24, 56, 120, 0, 256, 1016, 127, 4095] (by decide +kernel) ?_
      intro hm7
      refine DJ.mv 0 [(0, (some a0_2))] (a_move rfl rfl) ?_
      intro S7_0
      refine DJ.mv 1 [(4, (some v10_4))] (a_move rfl rfl) ?_
      intro S7_1
      refine DJ.rd 2 [(11, (some a0_2)), (12, (some v10_4))] h nx (r_slice (lo' := none) (hi' := some v10_4) (mx' := none) rfl rfl True.intro rfl True.intro H) ?_
      intro v13_8 H S7_2
      refine DJ.mv 3 [(0, (some a0_2))] (a_move rfl rfl) ?_
      intro S7_3
      refine DJ.mv 4 [(4, (some v10_4))] (a_move rfl rfl) ?_
      intro S7_4
      refine DJ.rd 5 [(14, (some a0_2)), (15, (some v10_4))] h nx (r_slice (lo' := none) (hi' := some v10_4) (mx' := none) rfl rfl True.intro rfl True.intro H) ?_
      intro v16_9 H S7_5
      refine DJ.mv 8 [(0, (some a0_2))] (a_move rfl rfl) ?_
      intro S7_8
      refine DJ.rd 9 [(19, (some a0_2))] h nx (r_conv rfl rfl H) ?_
      intro v20_10 H S7_9
      refine DJ.fu 6 [(16, (some v16_9))] h nx (r_call (args := [v16_9]) rfl rfl rfl (And.intro rfl True.intro) Tryz.call92 (sim92 H)) ?_
      intro v17_11 h11 nx11 H S7_6
      have I7_6 := S7_6.1
      refine DJ.rd 7 [(17, (some v17_11))] h11 nx11 (r_conv rfl rfl H) ?_
      intro v18_12 H S7_7
      refine DJ.any 10 [(18, (some v18_12)), (20, (some v20_10))] (a_bin rfl rfl rfl H) ?_
      intro v21_13 H S7_10
      refine DJ.mv 11 [(13, (some v13_8))] (a_assign rfl rfl) ?_
      intro S7_11
      refine DJ.mv 12 [(21, (some v21_13))] (a_assign rfl rfl) ?_
      intro S7_12
      refine DJ.rd 2 [(11, (some a0_2)), (12, (some v10_4))] h11 nx11 (r_slice (lo' := none) (hi' := some v10_4) (mx' := none) rfl rfl True.intro rfl True.intro H) ?_
      intro v13_15 H Q14
      obtain ⟨q14, H⟩ := hEq_true H
      refine DJ.rd 9 [(19, (some a0_2))] h11 nx11 (r_conv rfl rfl H) ?_
      intro v20_17 H Q16
      obtain ⟨q16, H⟩ := hEq_true H
      exact CJ.draw1 [(some a0_2), (some v10_4), (some v13_8), (some a0_2), (some v10_4), (some v16_9), (some v17_11), (some v18_12), (some a0_2), (some v20_10), (some v21_13), (some v13_8), (some v21_13)] [6] [(h, nx), (h11, nx11)] [] [0, 1, 2, 3, 4, 5, 6, 7, 8, 9, 10, 11, 12] [0, 1, 2, 3, 4, 5, 6, 7, 8, 9, 10, 11, 12] [0, 1, 2, 3, 4, 5, 6, 11, 7, 8, 9, 10, 12] (by decide +kernel) (And.intro (F_any (Ti := [(0, (some a0_2))]) hm7 [(0, none)] (by decide +kernel) (And.intro rfl (And.intro rfl True.intro)) (guard_no rfl) rfl rfl S7_0) (And.intro (F_any (Ti := [(4, (some v10_4))]) hm7 [(4, none)] (by decide +kernel) (And.intro rfl (And.intro rfl True.intro)) (guard_no rfl) rfl rfl S7_1) (And.intro (F_read (Ti := [(11, (some a0_2)), (12, (some v10_4))]) hm7 [(11, some 0), (12, some 1)] (by decide +kernel) (And.intro rfl (And.intro rfl (And.intro rfl (And.intro rfl True.intro)))) (guard_no rfl) rfl rfl 0 2 (by decide +kernel) (And.intro S7_2 (And.intro (opR_eq q14 Q14) True.intro))) (And.intro (F_any (Ti := [(0, (some a0_2))]) hm7 [(0, none)] (by decide +kernel) (And.intro rfl (And.intro rfl True.intro)) (guard_no rfl) rfl rfl S7_3) (And.intro (F_any (Ti := [(4, (some v10_4))]) hm7 [(4, none)] (by decide +kernel) (And.intro rfl (And.intro rfl True.intro)) (guard_no rfl) rfl rfl S7_4) (And.intro (F_read (Ti := [(14, (some a0_2)), (15, (some v10_4))]) hm7 [(14, some 3), (15, some 4)] (by decide +kernel) (And.intro rfl (And.intro rfl (And.intro rfl (And.intro rfl True.intro)))) (guard_no rfl) rfl rfl 0 1 (by decide +kernel) (And.intro S7_5 True.intro)) (And.intro (F_eff (Ti := [(16, (some v16_9))]) hm7 [(16, some 5)] (by decide +kernel) (And.intro rfl (And.intro rfl True.intro)) (guard_no rfl) rfl 0 rfl (by decide +kernel) S7_6 (Grow.refl _ _) (show nx ≤ nx by omega) True.intro) (And.intro (F_read (Ti := [(17, (some v17_11))]) hm7 [(17, some 6)] (by decide +kernel) (And.intro rfl (And.intro rfl True.intro)) (guard_no rfl) rfl rfl 1 1 (by decide +kernel) (And.intro S7_7 True.intro)) (And.intro (F_any (Ti := [(0, (some a0_2))]) hm7 [(0, none)] (by decide +kernel) (And.intro rfl (And.intro rfl True.intro)) (guard_no rfl) rfl rfl S7_8) (And.intro (F_read (Ti := [(19, (some a0_2))]) hm7 [(19, some 8)] (by decide +kernel) (And.intro rfl (And.intro rfl True.intro)) (guard_no rfl) rfl rfl 0 2 (by decide +kernel) (And.intro S7_9 (And.intro (opR_eq q16 Q16) True.intro))) (And.intro (F_any (Ti := [(18, (some v18_12)), (20, (some v20_10))]) hm7 [(18, some 7), (20, some 9)] (by decide +kernel) (And.intro rfl (And.intro rfl (And.intro rfl (And.intro rfl True.intro)))) (guard_no rfl) rfl rfl S7_10) (And.intro (F_any (Ti := [(13, (some v13_8))]) hm7 [(13, some 2)] (by decide +kernel) (And.intro rfl (And.intro rfl True.intro)) (guard_no rfl) rfl rfl S7_11) (And.intro (F_any (Ti := [(21, (some v21_13))]) hm7 [(21, some 10)] (by decide +kernel) (And.intro rfl (And.intro rfl True.intro)) (guard_no rfl) rfl rfl S7_12) True.intro))))))))))))) rfl (And.intro (by omega) (And.intro (by omega) True.intro)) True.intro (Grow.refl _ _) [(2, some 11), (3, some 12)] [(2, (some v13_8)), (3, (some v21_13))] (by decide +kernel) (And.intro rfl (And.intro rfl (And.intro rfl (And.intro rfl True.intro)))) rfl (Exists.intro (v13_8, v21_13, ()) (And.intro rfl H))
    · intro ⟨a2_6, a3_6, _u⟩ h nx H
      refine CJ.ret1 ?_
      exact ret_many (vs := [a2_6, a3_6]) [2, 3] (Or.inr rfl) rfl (And.intro rfl (And.intro rfl True.intro)) H

/-! 93 -/
noncomputable def H93_j1 (k : KV)  (a3_2 : Value) (h : Heap) (nx : Nat) : Bool :=
  k a3_2 h nx
noncomputable def H93_j7 (k : KV) (ih3 : Value → Value → Value → Heap → Nat → Bool) (a0_8 : Value) (a3_8 : Value) (a4_8 : Value) (h : Heap) (nx : Nat) : Bool :=
  binK Tryz.prog .add 3 (.tmp 9) (.const (.int .i64 (.ofNat 1))) a4_8 (.int .i64 (.ofNat 1)) fun v10_9 =>
  ih3 a0_8 a3_8 v10_9 h nx
noncomputable def H93_j5 (k : KV) (ih3 : Value → Value → Value → Heap → Nat → Bool) (a0_6 : Value) (a3_6 : Value) (a4_6 : Value) (h : Heap) (nx : Nat) : Bool :=
  binK Tryz.prog .mul 3 (.tmp 11) (.const (.int .i64 (.ofNat 256))) a3_6 (.int .i64 (.ofNat 256)) fun v12_10 =>
  hIndexAddr Tryz.prog 22 a0_6 a4_6 fun v15_11 =>
  loadK Tryz.prog 5 v15_11 h fun v16_12 =>
  hConv Tryz.prog 5 3 v16_12 h fun v17_13 =>
  binK Tryz.prog .add 3 (.tmp 12) (.tmp 17) v12_10 v17_13 fun v18_14 =>
  H93_j7 k ih3 a0_6 v18_14 a4_6 h nx
noncomputable def H93_l3 (k : KV)  (n : Nat) : Value → Value → Value → Heap → Nat → Bool :=
  Nat.rec (motive := fun _ => Value → Value → Value → Heap → Nat → Bool) (fun _ _ _ _ _ => false) (fun _ ih3 a0_4 a3_4 a4_4 h nx => lenK Tryz.prog 22 a0_4 h fun v7_15 =>
  binK Tryz.prog .lss 3 (.tmp 5) (.tmp 7) a4_4 v7_15 fun v8_16 =>
  hIf v8_16 (fun _ => H93_j5 k ih3 a0_4 a3_4 a4_4 h nx) (fun _ => H93_j1 k  a3_4 h nx)) n
noncomputable def H93 (a0 : Value) (h : Heap) (nx : Nat) (k : KV) : Bool :=
  H93_l3 k  200000 a0 (.int .i64 (.ofNat 0)) (.int .i64 (.ofNat 0)) h nx
theorem sim93 {a0 : Value} {h : Heap} {nx : Nat} {k : KV} (H : H93 a0 h nx k = true) : ∃ v h' nx', k v h' nx' = true ∧ CallSim Tryz.prog 93 [a0] h nx v h' nx' := by
  refine fn_rule Tryz.func93 rfl rfl ?_
  refine CJ.seq ?_
  refine CJ.region ?_
  refine OJ.mv rfl rfl rfl (r_assign rfl rfl) ?_
  refine OJ.fin ?_
  refine CJ.seq ?_
  refine CJ.region ?_
  refine OJ.mv rfl rfl rfl (r_assign rfl rfl) ?_
  refine OJ.fin ?_
  refine CJ.seq (CJ.cut (X := Value × Unit) (fun x h nx => H93_j1 k  x.1 h nx) (fun x => [(3, some x.1)]) ?_ ?_)
  · refine CJ.seq ?_
    refine CJ.region ?_
    refine OJ.mv rfl rfl rfl (r_assign rfl rfl) ?_
    refine OJ.fin ?_
    refine CJ.block ?_
    refine CJ.weaken [(0, (some a0)), (3, (some (.int .i64 (.ofNat 0)))), (4, (some (.int .i64 (.ofNat 0))))] (And.intro rfl (And.intro rfl (And.intro rfl True.intro))) ?_
    refine CJ.loop_ind (X := Value × Value × Value × Unit) (fun n x h nx => H93_l3 k  n x.1 x.2.1 x.2.2.1 h nx) (fun x => [(0, some x.1), (3, some x.2.1), (4, some x.2.2.1)]) (fun _ _ _ => rfl) ?_ 200000 (a0, (.int .i64 (.ofNat 0)), (.int .i64 (.ofNat 0)), ()) _ _ H
    intro ih3n ih3p ⟨a0_4, a3_4, a4_4, _u⟩ h nx H
    let ih3 := H93_l3 k  ih3n
    refine CJ.seq (CJ.cut (X := Value × Value × Value × Unit) (fun x h nx => H93_j5 k ih3 x.1 x.2.1 x.2.2.1 h nx) (fun x => [(0, some x.1), (3, some x.2.1), (4, some x.2.2.1)]) ?_ ?_)
    · refine CJ.seq ?_
      refine CJ.region ?_
      refine OJ.mv rfl rfl rfl (r_move rfl rfl) ?_
      refine OJ.mv rfl rfl rfl (r_move rfl rfl) ?_
      refine OJ.rd rfl rfl rfl (r_len (x := default) rfl rfl (And.intro rfl True.intro) rfl H) ?_
      intro v7_15 H
      refine OJ.rd rfl rfl rfl (r_bin rfl rfl rfl H) ?_
      intro v8_16 H
      refine OJ.fin ?_
      refine CJ.ite rfl H (fun H => ?_) (fun H => ?_)
      · exact CJ.skip [(0, (some a0_4)), (3, (some a3_4)), (4, (some a4_4))] (And.intro rfl (And.intro rfl (And.intro rfl True.intro))) (Exists.intro (a0_4, a3_4, a4_4, ()) (And.intro rfl H))
      · exact CJ.exit [(3, (some a3_4))] (And.intro rfl True.intro) (Exists.intro (a3_4, ()) (And.intro rfl H))
    · intro ⟨a0_6, a3_6, a4_6, _u⟩ h nx H
      refine CJ.seq (CJ.cut (X := Value × Value × Value × Unit) (fun x h nx => H93_j7 k ih3 x.1 x.2.1 x.2.2.1 h nx) (fun x => [(0, some x.1), (3, some x.2.1), (4, some x.2.2.1)]) ?_ ?_)
      · refine CJ.block ?_
        refine CJ.region ?_
        refine OJ.mv rfl rfl rfl (r_move rfl rfl) ?_
        refine OJ.rd rfl rfl rfl (r_bin rfl rfl rfl H) ?_
        intro v12_10 H
        refine OJ.mv rfl rfl rfl (r_move rfl rfl) ?_
        refine OJ.mv rfl rfl rfl (r_move rfl rfl) ?_
        refine OJ.rd rfl rfl rfl (r_indexAddr rfl rfl rfl H) ?_
        intro v15_11 H
        refine OJ.rd rfl rfl rfl (r_load rfl rfl H) ?_
        intro v16_12 H
        refine OJ.rd rfl rfl rfl (r_conv rfl rfl H) ?_
        intro v17_13 H
        refine OJ.rd rfl rfl rfl (r_bin rfl rfl rfl H) ?_
        intro v18_14 H
        refine OJ.mv rfl rfl rfl (r_assign rfl rfl) ?_
        exact OJ.done [(0, (some a0_6)), (3, (some v18_14)), (4, (some a4_6))] (And.intro rfl (And.intro rfl (And.intro rfl True.intro))) (Exists.intro (a0_6, v18_14, a4_6, ()) (And.intro rfl H))
      · intro ⟨a0_8, a3_8, a4_8, _u⟩ h nx H
        refine CJ.region ?_
        refine OJ.mv rfl rfl rfl (r_move rfl rfl) ?_
        refine OJ.rd rfl rfl rfl (r_bin rfl rfl rfl H) ?_
        intro v10_9 H
        refine OJ.mv rfl rfl rfl (r_assign rfl rfl) ?_
        exact OJ.done [(0, (some a0_8)), (3, (some a3_8)), (4, (some v10_9))] (And.intro rfl (And.intro rfl (And.intro rfl True.intro))) (ih3p (a0_8, a3_8, v10_9, ()) _ _ H)
  · intro ⟨a3_2, _u⟩ h nx H
    refine CJ.seq ?_
    refine CJ.region ?_
    refine OJ.mv rfl rfl rfl (r_move rfl rfl) ?_
    refine OJ.mv rfl rfl rfl (r_assign rfl rfl) ?_
    refine OJ.fin ?_
    refine CJ.ret1 ?_
    exact ret_one (Or.inr rfl) rfl rfl H

/-! 94 -/
noncomputable def H94_j3 (k : KV)  (a3_4 : Value) (h : Heap) (nx : Nat) : Bool :=
  binK Tryz.prog .sub 3 (.tmp 15) (.const (.int .i64 (.ofNat 1))) a3_4 (.int .i64 (.ofNat 1)) fun v16_5 =>
  k v16_5 h nx
noncomputable def H94_j1 (k : KV)  (a3_2 : Value) (h : Heap) (nx : Nat) : Bool :=
  binK Tryz.prog .sub 3 (.tmp 12) (.const (.int .i64 (.ofNat 1))) a3_2 (.int .i64 (.ofNat 1)) fun v13_6 =>
  binK Tryz.prog .gtr 3 (.tmp 13) (.const (.int .i64 (.ofNat 2147483647))) v13_6 (.int .i64 (.ofNat 2147483647)) fun v14_7 =>
  hIf v14_7 (fun _ => k (.int .i64 (.ofNat 2147483647)) h nx) (fun _ => H94_j3 k  a3_2 h nx)
noncomputable def H94_j12 (k : KV) (ih8 : Value → Value → Value → Heap → Nat → Bool) (a0_13 : Value) (a3_13 : Value) (a4_13 : Value) (h : Heap) (nx : Nat) : Bool :=
  binK Tryz.prog .add 3 (.tmp 8) (.const (.int .i64 (.ofNat 1))) a4_13 (.int .i64 (.ofNat 1)) fun v9_14 =>
  ih8 a0_13 a3_13 v9_14 h nx
noncomputable def H94_j10 (k : KV) (ih8 : Value → Value → Value → Heap → Nat → Bool) (a0_11 : Value) (a3_11 : Value) (a4_11 : Value) (h : Heap) (nx : Nat) : Bool :=
  binK Tryz.prog .mul 3 (.tmp 10) (.const (.int .i64 (.ofNat 256))) a3_11 (.int .i64 (.ofNat 256)) fun v11_15 =>
  H94_j12 k ih8 a0_11 v11_15 a4_11 h nx
noncomputable def H94_l8 (k : KV)  (n : Nat) : Value → Value → Value → Heap → Nat → Bool :=
  Nat.rec (motive := fun _ => Value → Value → Value → Heap → Nat → Bool) (fun _ _ _ _ _ => false) (fun _ ih8 a0_9 a3_9 a4_9 h nx => binK Tryz.prog .lss 3 (.tmp 5) (.tmp 6) a4_9 a0_9 fun v7_16 =>
  hIf v7_16 (fun _ => H94_j10 k ih8 a0_9 a3_9 a4_9 h nx) (fun _ => H94_j1 k  a3_9 h nx)) n
noncomputable def H94 (a0 : Value) (h : Heap) (nx : Nat) (k : KV) : Bool :=
  H94_l8 k  200000 a0 (.int .i64 (.ofNat 1)) (.int .i64 (.ofNat 0)) h nx
theorem sim94 {a0 : Value} {h : Heap} {nx : Nat} {k : KV} (H : H94 a0 h nx k = true) : ∃ v h' nx', k v h' nx' = true ∧ CallSim Tryz.prog 94 [a0] h nx v h' nx' := by
  refine fn_rule Tryz.func94 rfl rfl ?_
  refine CJ.seq ?_
  refine CJ.region ?_
  refine OJ.mv rfl rfl rfl (r_assign rfl rfl) ?_
  refine OJ.fin ?_
  refine CJ.seq ?_
  refine CJ.region ?_
  refine OJ.mv rfl rfl rfl (r_assign rfl rfl) ?_
  refine OJ.fin ?_
  refine CJ.seq (CJ.cut (X := Value × Unit) (fun x h nx => H94_j1 k  x.1 h nx) (fun x => [(3, some x.1)]) ?_ ?_)
  · refine CJ.seq ?_
    refine CJ.region ?_
    refine OJ.mv rfl rfl rfl (r_assign rfl rfl) ?_
    refine OJ.fin ?_
    refine CJ.block ?_
    refine CJ.weaken [(0, (some a0)), (3, (some (.int .i64 (.ofNat 1)))), (4, (some (.int .i64 (.ofNat 0))))] (And.intro rfl (And.intro rfl (And.intro rfl True.intro))) ?_
    refine CJ.loop_ind (X := Value × Value × Value × Unit) (fun n x h nx => H94_l8 k  n x.1 x.2.1 x.2.2.1 h nx) (fun x => [(0, some x.1), (3, some x.2.1), (4, some x.2.2.1)]) (fun _ _ _ => rfl) ?_ 200000 (a0, (.int .i64 (.ofNat 1)), (.int .i64 (.ofNat 0)), ()) _ _ H
    intro ih8n ih8p ⟨a0_9, a3_9, a4_9, _u⟩ h nx H
    let ih8 := H94_l8 k  ih8n
    refine CJ.seq (CJ.cut (X := Value × Value × Value × Unit) (fun x h nx => H94_j10 k ih8 x.1 x.2.1 x.2.2.1 h nx) (fun x => [(0, some x.1), (3, some x.2.1), (4, some x.2.2.1)]) ?_ ?_)
    · refine CJ.seq ?_
      refine CJ.region ?_
      refine OJ.mv rfl rfl rfl (r_move rfl rfl) ?_
      refine OJ.mv rfl rfl rfl (r_move rfl rfl) ?_
      refine OJ.rd rfl rfl rfl (r_bin rfl rfl rfl H) ?_
      intro v7_16 H
      refine OJ.fin ?_
      refine CJ.ite rfl H (fun H => ?_) (fun H => ?_)
      · exact CJ.skip [(0, (some a0_9)), (3, (some a3_9)), (4, (some a4_9))] (And.intro rfl (And.intro rfl (And.intro rfl True.intro))) (Exists.intro (a0_9, a3_9, a4_9, ()) (And.intro rfl H))
      · exact CJ.exit [(3, (some a3_9))] (And.intro rfl True.intro) (Exists.intro (a3_9, ()) (And.intro rfl H))
    · intro ⟨a0_11, a3_11, a4_11, _u⟩ h nx H
      refine CJ.seq (CJ.cut (X := Value × Value × Value × Unit) (fun x h nx => H94_j12 k ih8 x.1 x.2.1 x.2.2.1 h nx) (fun x => [(0, some x.1), (3, some x.2.1), (4, some x.2.2.1)]) ?_ ?_)
      · refine CJ.block ?_
        refine CJ.region ?_
        refine OJ.mv rfl rfl rfl (r_move rfl rfl) ?_
        refine OJ.rd rfl rfl rfl (r_bin rfl rfl rfl H) ?_
        intro v11_15 H
        refine OJ.mv rfl rfl rfl (r_assign rfl rfl) ?_
        exact OJ.done [(0, (some a0_11)), (3, (some v11_15)), (4, (some a4_11))] (And.intro rfl (And.intro rfl (And.intro rfl True.intro))) (Exists.intro (a0_11, v11_15, a4_11, ()) (And.intro rfl H))
      · intro ⟨a0_13, a3_13, a4_13, _u⟩ h nx H
        refine CJ.region ?_
        refine OJ.mv rfl rfl rfl (r_move rfl rfl) ?_
        refine OJ.rd rfl rfl rfl (r_bin rfl rfl rfl H) ?_
        intro v9_14 H
        refine OJ.mv rfl rfl rfl (r_assign rfl rfl) ?_
        exact OJ.done [(0, (some a0_13)), (3, (some a3_13)), (4, (some v9_14))] (And.intro rfl (And.intro rfl (And.intro rfl True.intro))) (ih8p (a0_13, a3_13, v9_14, ()) _ _ H)
  · intro ⟨a3_2, _u⟩ h nx H
    refine CJ.seq (CJ.cut (X := Value × Unit) (fun x h nx => H94_j3 k  x.1 h nx) (fun x => [(3, some x.1)]) ?_ ?_)
    · refine CJ.seq ?_
      refine CJ.region ?_
      refine OJ.mv rfl rfl rfl (r_move rfl rfl) ?_
      refine OJ.rd rfl rfl rfl (r_bin rfl rfl rfl H) ?_
      intro v13_6 H
      refine OJ.rd rfl rfl rfl (r_bin rfl rfl rfl H) ?_
      intro v14_7 H
      refine OJ.fin ?_
      refine CJ.ite rfl H (fun H => ?_) (fun H => ?_)
      · refine CJ.seq ?_
        refine CJ.region ?_
        refine OJ.mv rfl rfl rfl (r_assign rfl rfl) ?_
        refine OJ.fin ?_
        refine CJ.ret1 ?_
        exact ret_one (Or.inr rfl) rfl rfl H
      · exact CJ.skip [(3, (some a3_2))] (And.intro rfl True.intro) (Exists.intro (a3_2, ()) (And.intro rfl H))
    · intro ⟨a3_4, _u⟩ h nx H
      refine CJ.seq ?_
      refine CJ.region ?_
      refine OJ.mv rfl rfl rfl (r_move rfl rfl) ?_
      refine OJ.rd rfl rfl rfl (r_bin rfl rfl rfl H) ?_
      intro v16_5 H
      refine OJ.mv rfl rfl rfl (r_assign rfl rfl) ?_
      refine OJ.fin ?_
      refine CJ.ret1 ?_
      exact ret_one (Or.inr rfl) rfl rfl H

/-! 55 -/
noncomputable def H55_j5 (k : KV)  (a0_6 : Value) (a1_6 : Value) (h : Heap) (nx : Nat) : Bool :=
  hNil a0_6 fun v43_7 =>
  hFieldAddr Tryz.prog 143 v43_7 0 fun v44_8 =>
  loadK Tryz.prog 22 v44_8 h fun v45_9 =>
  hSlice Tryz.prog h 22 v45_9 none (some a1_6) none fun v47_10 =>
  H93 v47_10 h nx fun v48_11 h11 nx11 =>
  hNil a0_6 fun v51_12 =>
  hFieldAddr Tryz.prog 143 v51_12 0 fun v52_13 =>
  loadK Tryz.prog 22 v52_13 h11 fun v53_14 =>
  hSlice Tryz.prog h11 22 v53_14 (some a1_6) none none fun v55_15 =>
  hNil a0_6 fun v56_16 =>
  hFieldAddr Tryz.prog 143 v56_16 0 fun v57_17 =>
  storeK Tryz.prog 22 v57_17 v55_15 h11 fun h18 =>
  k v48_11 h18 nx11
noncomputable def H55_g24 (k : KV)  (a0_4 : Value) (a1_4 : Value) (v26_23 : Value) (o28_25 : Option Value) (o29_25 : Option Value) (o30_25 : Option Value) (o31_25 : Option Value) (o32_25 : Option Value) (o33_25 : Option Value) (o34_25 : Option Value) (o35_25 : Option Value) (o36_25 : Option Value) (o37_25 : Option Value) (h : Heap) (nx : Nat) : Bool :=
  hPick v26_23 (some (.bool true)) o37_25 fun v38_26 =>
  hIf v38_26 (fun _ => false) (fun _ => H55_j5 k  a0_4 a1_4 h nx)
noncomputable def H55_j3 (k : KV)  (a0_4 : Value) (a1_4 : Value) (h : Heap) (nx : Nat) : Bool :=
  hNil a0_4 fun v21_19 =>
  hFieldAddr Tryz.prog 143 v21_19 0 fun v22_20 =>
  loadK Tryz.prog 22 v22_20 h fun v23_21 =>
  lenK Tryz.prog 22 v23_21 h fun v24_22 =>
  binK Tryz.prog .lss 3 (.tmp 24) (.tmp 25) v24_22 a1_4 fun v26_23 =>
  hG (some v26_23) false (fun _ => hNil a0_4 fun v29_27 =>
  hFieldAddr Tryz.prog 143 v29_27 0 fun v30_28 =>
  loadK Tryz.prog 22 v30_28 h fun v31_29 =>
  hSlice Tryz.prog h 22 v31_29 none (some a1_4) none fun v33_30 =>
  H93 v33_30 h nx fun v34_31 h31 nx31 =>
  H94 a1_4 h31 nx31 fun v36_32 h32 nx32 =>
  binK Tryz.prog .gtr 3 (.tmp 34) (.tmp 36) v34_31 v36_32 fun v37_33 =>
  H55_g24 k  a0_4 a1_4 v26_23 (some a0_4) (some v29_27) (some v30_28) (some v31_29) (some a1_4) (some v33_30) (some v34_31) (some a1_4) (some v36_32) (some v37_33) h32 nx32) (fun _ => H55_g24 k  a0_4 a1_4 v26_23 none none none none none none none none none none h nx)
noncomputable def H55_g35 (k : KV)  (a0_2 : Value) (a1_2 : Value) (v12_34 : Value) (o14_36 : Option Value) (o15_36 : Option Value) (h : Heap) (nx : Nat) : Bool :=
  hPick v12_34 (some (.bool true)) o15_36 fun v16_37 =>
  hIf v16_37 (fun _ => false) (fun _ => H55_j3 k  a0_2 a1_2 h nx)
noncomputable def H55_j1 (k : KV)  (a0_2 : Value) (a1_2 : Value) (h : Heap) (nx : Nat) : Bool :=
  binK Tryz.prog .lss 3 (.tmp 11) (.const (.int .i64 (.ofNat 1))) a1_2 (.int .i64 (.ofNat 1)) fun v12_34 =>
  hG (some v12_34) false (fun _ => binK Tryz.prog .gtr 3 (.tmp 14) (.const (.int .i64 (.ofNat 4))) a1_2 (.int .i64 (.ofNat 4)) fun v15_38 =>
  H55_g35 k  a0_2 a1_2 v12_34 (some a1_2) (some v15_38) h nx) (fun _ => H55_g35 k  a0_2 a1_2 v12_34 none none h nx)
noncomputable def H55 (a0 : Value) (a1 : Value) (h : Heap) (nx : Nat) (k : KV) : Bool :=
  hNil a0 fun v7_39 =>
  hFieldAddr Tryz.prog 143 v7_39 1 fun v8_40 =>
  loadK Tryz.prog 44 v8_40 h fun v9_41 =>
  binK Tryz.prog .neq 44 (.tmp 9) (.const (.int .i64 (.ofNat 0))) v9_41 (.int .i64 (.ofNat 0)) fun v10_42 =>
  hIf v10_42 (fun _ => false) (fun _ => H55_j1 k  a0 a1 h nx)
theorem sim55 {a0 a1 : Value} {h : Heap} {nx : Nat} {k : KV} (H : H55 a0 a1 h nx k = true) : ∃ v h' nx', k v h' nx' = true ∧ CallSim Tryz.prog 55 [a0, a1] h nx v h' nx' := by
  refine fn_rule Tryz.func55 rfl rfl ?_
  refine CJ.seq ?_
  refine CJ.region ?_
  refine OJ.mv rfl rfl rfl (r_assign rfl rfl) ?_
  refine OJ.fin ?_
  refine CJ.seq (CJ.cut (X := Value × Value × Unit) (fun x h nx => H55_j1 k  x.1 x.2.1 h nx) (fun x => [(0, some x.1), (1, some x.2.1)]) ?_ ?_)
  · refine CJ.seq ?_
    refine CJ.region ?_
    refine OJ.mv rfl rfl rfl (r_move rfl rfl) ?_
    refine OJ.rd rfl rfl rfl (r_nil rfl rfl H) ?_
    intro v7_39 H
    refine OJ.rd rfl rfl rfl (r_fieldAddr rfl rfl H) ?_
    intro v8_40 H
    refine OJ.rd rfl rfl rfl (r_load rfl rfl H) ?_
    intro v9_41 H
    refine OJ.rd rfl rfl rfl (r_bin rfl rfl rfl H) ?_
    intro v10_42 H
    refine OJ.fin ?_
    refine CJ.ite rfl H (fun H => ?_) (fun H => ?_)
    · cases H
    · exact CJ.skip [(0, (some a0)), (1, (some a1))] (And.intro rfl (And.intro rfl True.intro)) (Exists.intro (a0, a1, ()) (And.intro rfl H))
  · intro ⟨a0_2, a1_2, _u⟩ h nx H
    refine CJ.seq (CJ.cut (X := Value × Value × Unit) (fun x h nx => H55_j3 k  x.1 x.2.1 h nx) (fun x => [(0, some x.1), (1, some x.2.1)]) ?_ ?_)
    · refine CJ.seq ?_
      refine CJ.region ?_
      refine OJ.mv rfl rfl rfl (r_move rfl rfl) ?_
      refine OJ.rd rfl rfl rfl (r_bin rfl rfl rfl H) ?_
      intro v12_34 H
      refine OJ.mv rfl rfl rfl (r_move rfl rfl) ?_
      refine OJ.cut (X := Option Value × Option Value × Unit) 2 (fun x h nx => H55_g35 k  a0_2 a1_2 v12_34 x.1 x.2.1 h nx) (fun x => [(14, x.1), (15, x.2.1), (0, (some a0_2)), (1, (some a1_2)), (13, (some v12_34))]) ?_ (fun next => ?_)
      · intro ⟨o14_36, o15_36, _u⟩ h nx H
        refine OJ.rd rfl rfl rfl (r_pick rfl rfl rfl rfl H) ?_
        intro v16_37 H
        refine OJ.fin ?_
        refine CJ.ite rfl H (fun H => ?_) (fun H => ?_)
        · cases H
        · exact CJ.skip [(0, (some a0_2)), (1, (some a1_2))] (And.intro rfl (And.intro rfl True.intro)) (Exists.intro (a0_2, a1_2, ()) (And.intro rfl H))
      · rcases hG_true H with ⟨g, H⟩ | ⟨g, H⟩
        · refine OJ.gmv rfl rfl rfl g rfl rfl (r_move rfl rfl) ?_
          refine OJ.grd rfl rfl rfl g rfl rfl (r_bin rfl rfl rfl H) ?_
          intro v15_38 H
          exact OJ.weaken [(14, (some a1_2)), (15, (some v15_38)), (0, (some a0_2)), (1, (some a1_2)), (13, (some v12_34))] (And.intro rfl (And.intro rfl (And.intro rfl (And.intro rfl (And.intro rfl True.intro))))) (next ((some a1_2), (some v15_38), ()) _ _ H)
        · refine OJ.no rfl rfl rfl g rfl rfl ?_
          refine OJ.no rfl rfl rfl g rfl rfl ?_
          exact OJ.weaken [(14, none), (15, none), (0, (some a0_2)), (1, (some a1_2)), (13, (some v12_34))] (And.intro rfl (And.intro rfl (And.intro rfl (And.intro rfl (And.intro rfl True.intro))))) (next (none, none, ()) _ _ H)
    · intro ⟨a0_4, a1_4, _u⟩ h nx H
      refine CJ.seq (CJ.cut (X := Value × Value × Unit) (fun x h nx => H55_j5 k  x.1 x.2.1 h nx) (fun x => [(0, some x.1), (1, some x.2.1)]) ?_ ?_)
      · refine CJ.seq ?_
        refine CJ.region ?_
        refine OJ.mv rfl rfl rfl (r_move rfl rfl) ?_
        refine OJ.rd rfl rfl rfl (r_nil rfl rfl H) ?_
        intro v21_19 H
        refine OJ.rd rfl rfl rfl (r_fieldAddr rfl rfl H) ?_
        intro v22_20 H
        refine OJ.rd rfl rfl rfl (r_load rfl rfl H) ?_
        intro v23_21 H
        refine OJ.rd rfl rfl rfl (r_len (x := default) rfl rfl (And.intro rfl True.intro) rfl H) ?_
        intro v24_22 H
        refine OJ.mv rfl rfl rfl (r_move rfl rfl) ?_
        refine OJ.rd rfl rfl rfl (r_bin rfl rfl rfl H) ?_
        intro v26_23 H
        refine OJ.mv rfl rfl rfl (r_move rfl rfl) ?_
        refine OJ.cut (X := Option Value × Option Value × Option Value × Option Value × Option Value × Option Value × Option Value × Option Value × Option Value × Option Value × Unit) 10 (fun x h nx => H55_g24 k  a0_4 a1_4 v26_23 x.1 x.2.1 x.2.2.1 x.2.2.2.1 x.2.2.2.2.1 x.2.2.2.2.2.1 x.2.2.2.2.2.2.1 x.2.2.2.2.2.2.2.1 x.2.2.2.2.2.2.2.2.1 x.2.2.2.2.2.2.2.2.2.1 h nx) (fun x => [(28, x.1), (29, x.2.1), (30, x.2.2.1), (31, x.2.2.2.1), (32, x.2.2.2.2.1), (33, x.2.2.2.2.2.1), (34, x.2.2.2.2.2.2.1), (35, x.2.2.2.2.2.2.2.1), (36, x.2.2.2.2.2.2.2.2.1), (37, x.2.2.2.2.2.2.2.2.2.1), (0, (some a0_4)), (1, (some a1_4)), (27, (some v26_23))]) ?_ (fun next => ?_)
        · intro ⟨o28_25, o29_25, o30_25, o31_25, o32_25, o33_25, o34_25, o35_25, o36_25, o37_25, _u⟩ h nx H
          refine OJ.rd rfl rfl rfl (r_pick rfl rfl rfl rfl H) ?_
          intro v38_26 H
          refine OJ.fin ?_
          refine CJ.ite rfl H (fun H => ?_) (fun H => ?_)
          · cases H
          · exact CJ.skip [(0, (some a0_4)), (1, (some a1_4))] (And.intro rfl (And.intro rfl True.intro)) (Exists.intro (a0_4, a1_4, ()) (And.intro rfl H))
        · rcases hG_true H with ⟨g, H⟩ | ⟨g, H⟩
          · refine OJ.gmv rfl rfl rfl g rfl rfl (r_move rfl rfl) ?_
            refine OJ.grd rfl rfl rfl g rfl rfl (r_nil rfl rfl H) ?_
            intro v29_27 H
            refine OJ.grd rfl rfl rfl g rfl rfl (r_fieldAddr rfl rfl H) ?_
            intro v30_28 H
            refine OJ.grd rfl rfl rfl g rfl rfl (r_load rfl rfl H) ?_
            intro v31_29 H
            refine OJ.gmv rfl rfl rfl g rfl rfl (r_move rfl rfl) ?_
            refine OJ.grd rfl rfl rfl g rfl rfl (r_slice (lo' := none) (hi' := some a1_4) (mx' := none) rfl rfl True.intro rfl True.intro H) ?_
            intro v33_30 H
            refine OJ.gfu rfl rfl rfl g rfl rfl (r_call (args := [v33_30]) rfl rfl rfl (And.intro rfl True.intro) Tryz.call93 (sim93 H)) ?_
            intro v34_31 h31 nx31 H
            refine OJ.gmv rfl rfl rfl g rfl rfl (r_move rfl rfl) ?_
            refine OJ.gfu rfl rfl rfl g rfl rfl (r_call (args := [a1_4]) rfl rfl rfl (And.intro rfl True.intro) Tryz.call94 (sim94 H)) ?_
            intro v36_32 h32 nx32 H
            refine OJ.grd rfl rfl rfl g rfl rfl (r_bin rfl rfl rfl H) ?_
            intro v37_33 H
            exact OJ.weaken [(28, (some a0_4)), (29, (some v29_27)), (30, (some v30_28)), (31, (some v31_29)), (32, (some a1_4)), (33, (some v33_30)), (34, (some v34_31)), (35, (some a1_4)), (36, (some v36_32)), (37, (some v37_33)), (0, (some a0_4)), (1, (some a1_4)), (27, (some v26_23))] (And.intro rfl (And.intro rfl (And.intro rfl (And.intro rfl (And.intro rfl (And.intro rfl (And.intro rfl (And.intro rfl (And.intro rfl (And.intro rfl (And.intro rfl (And.intro rfl (And.intro rfl True.intro))))))))))))) (next ((some a0_4), (some v29_27), (some v30_28), (some v31_29), (some a1_4), (some v33_30), (some v34_31), (some a1_4), (some v36_32), (some v37_33), ()) _ _ H)
          · refine OJ.no rfl rfl rfl g rfl rfl ?_
            refine OJ.no rfl rfl rfl g rfl rfl ?_
            refine OJ.no rfl rfl rfl g rfl rfl ?_
            refine OJ.no rfl rfl rfl g rfl rfl ?_
            refine OJ.no rfl rfl rfl g rfl rfl ?_
            refine OJ.no rfl rfl rfl g rfl rfl ?_
            refine OJ.no rfl rfl rfl g rfl rfl ?_
            refine OJ.no rfl rfl rfl g rfl rfl ?_
            refine OJ.no rfl rfl rfl g rfl rfl ?_
            refine OJ.no rfl rfl rfl g rfl rfl ?_
            exact OJ.weaken [(28, none), (29, none), (30, none), (31, none), (32, none), (33, none), (34, none), (35, none), (36, none), (37, none), (0, (some a0_4)), (1, (some a1_4)), (27, (some v26_23))] (And.intro rfl (And.intro rfl (And.intro rfl (And.intro rfl (And.intro rfl (And.intro rfl (And.intro rfl (And.intro rfl (And.intro rfl (And.intro rfl (And.intro rfl (And.intro rfl (And.intro rfl True.intro))))))))))))) (next (none, none, none, none, none, none, none, none, none, none, ()) _ _ H)
      · intro ⟨a0_6, a1_6, _u⟩ h nx H
        refine CJ.seq ?_
        refine CJ.region ?_
        refine OJ.mv rfl rfl rfl (r_move rfl rfl) ?_
        refine OJ.rd rfl rfl rfl (r_nil rfl rfl H) ?_
        intro v43_7 H
        refine OJ.rd rfl rfl rfl (r_fieldAddr rfl rfl H) ?_
        intro v44_8 H
        refine OJ.rd rfl rfl rfl (r_load rfl rfl H) ?_
        intro v45_9 H
        refine OJ.mv rfl rfl rfl (r_move rfl rfl) ?_
        refine OJ.rd rfl rfl rfl (r_slice (lo' := none) (hi' := some a1_6) (mx' := none) rfl rfl True.intro rfl True.intro H) ?_
        intro v47_10 H
        refine OJ.fu rfl rfl rfl (r_call (args := [v47_10]) rfl rfl rfl (And.intro rfl True.intro) Tryz.call93 (sim93 H)) ?_
        intro v48_11 h11 nx11 H
        refine OJ.mv rfl rfl rfl (r_assign rfl rfl) ?_
        refine OJ.fin ?_
        refine CJ.seq ?_
        refine CJ.region ?_
        refine OJ.mv rfl rfl rfl (r_move rfl rfl) ?_
        refine OJ.mv rfl rfl rfl (r_move rfl rfl) ?_
        refine OJ.rd rfl rfl rfl (r_nil rfl rfl H) ?_
        intro v51_12 H
        refine OJ.rd rfl rfl rfl (r_fieldAddr rfl rfl H) ?_
        intro v52_13 H
        refine OJ.rd rfl rfl rfl (r_load rfl rfl H) ?_
        intro v53_14 H
        refine OJ.mv rfl rfl rfl (r_move rfl rfl) ?_
        refine OJ.rd rfl rfl rfl (r_slice (lo' := some a1_6) (hi' := none) (mx' := none) rfl rfl rfl True.intro True.intro H) ?_
        intro v55_15 H
        refine OJ.rd rfl rfl rfl (r_nil rfl rfl H) ?_
        intro v56_16 H
        refine OJ.rd rfl rfl rfl (r_fieldAddr rfl rfl H) ?_
        intro v57_17 H
        refine OJ.wr rfl rfl (r_store rfl rfl rfl H) ?_
        intro h18 H
        refine OJ.fin ?_
        refine CJ.seq ?_
        refine CJ.region ?_
        refine OJ.mv rfl rfl rfl (r_move rfl rfl) ?_
        refine OJ.mv rfl rfl rfl (r_assign rfl rfl) ?_
        refine OJ.fin ?_
        refine CJ.ret1 ?_
        exact ret_one (Or.inr rfl) rfl rfl H

/-! 56 -/
noncomputable def H56_g17 (k : KV)  (v37_12 : Value) (o47_18 : Option Value) (h : Heap) (nx : Nat) : Bool :=
  hPick v37_12 o47_18 (some (.bool false)) fun v48_19 =>
  k v48_19 h nx
noncomputable def H56_g15 (k : KV)  (v37_12 : Value) (o42_14 : Option Value) (o43_16 : Option Value) (o44_16 : Option Value) (o45_16 : Option Value) (o46_16 : Option Value) (h : Heap) (nx : Nat) : Bool :=
  hG (some v37_12) true (fun _ => optK o42_14 fun v42_20 =>
  hPick v42_20 (some (.bool true)) o46_16 fun v47_21 =>
  H56_g17 k  v37_12 (some v47_21) h nx) (fun _ => H56_g17 k  v37_12 none h nx)
noncomputable def H56_g13 (k : KV)  (a1_3 : Value) (v37_12 : Value) (o39_14 : Option Value) (o40_14 : Option Value) (o41_14 : Option Value) (o42_14 : Option Value) (h : Heap) (nx : Nat) : Bool :=
  hG o42_14 false (fun _ => hFieldAddr Tryz.prog 24 a1_3 4 fun v43_22 =>
  loadK Tryz.prog 22 v43_22 h fun v44_23 =>
  lenK Tryz.prog 22 v44_23 h fun v45_24 =>
  binK Tryz.prog .eql 3 (.tmp 45) (.const (.int .i64 (.ofNat 0))) v45_24 (.int .i64 (.ofNat 0)) fun v46_25 =>
  H56_g15 k  v37_12 o42_14 (some v43_22) (some v44_23) (some v45_24) (some v46_25) h nx) (fun _ => H56_g15 k  v37_12 o42_14 none none none none h nx)
noncomputable def H56_g10 (k : KV)  (a1_3 : Value) (v31_9 : Value) (o33_11 : Option Value) (o34_11 : Option Value) (o35_11 : Option Value) (o36_11 : Option Value) (h : Heap) (nx : Nat) : Bool :=
  hPick v31_9 o36_11 (some (.bool false)) fun v37_12 =>
  hG (some v37_12) true (fun _ => hFieldAddr Tryz.prog 24 a1_3 0 fun v39_26 =>
  loadK Tryz.prog 3 v39_26 h fun v40_27 =>
  binK Tryz.prog .eql 3 (.tmp 40) (.const (.int .i64 (.ofNat 3))) v40_27 (.int .i64 (.ofNat 3)) fun v41_28 =>
  H56_g13 k  a1_3 v37_12 (some v39_26) (some v40_27) (some v41_28) (some v41_28) h nx) (fun _ => H56_g13 k  a1_3 v37_12 none none none none h nx)
noncomputable def H56_g7 (k : KV)  (a1_3 : Value) (v26_6 : Value) (o28_8 : Option Value) (o29_8 : Option Value) (o30_8 : Option Value) (h : Heap) (nx : Nat) : Bool :=
  hPick v26_6 o30_8 (some (.bool false)) fun v31_9 =>
  hG (some v31_9) true (fun _ => hFieldAddr Tryz.prog 24 a1_3 4 fun v33_29 =>
  loadK Tryz.prog 22 v33_29 h fun v34_30 =>
  lenK Tryz.prog 22 v34_30 h fun v35_31 =>
  binK Tryz.prog .leq 3 (.tmp 35) (.const (.int .i64 (.ofNat 16384))) v35_31 (.int .i64 (.ofNat 16384)) fun v36_32 =>
  H56_g10 k  a1_3 v31_9 (some v33_29) (some v34_30) (some v35_31) (some v36_32) h nx) (fun _ => H56_g10 k  a1_3 v31_9 none none none none h nx)
noncomputable def H56_j2 (k : KV)  (a1_3 : Value) (h : Heap) (nx : Nat) : Bool :=
  hFieldAddr Tryz.prog 24 a1_3 0 fun v24_4 =>
  loadK Tryz.prog 3 v24_4 h fun v25_5 =>
  binK Tryz.prog .geq 3 (.tmp 25) (.const (.int .i64 (.ofNat 1))) v25_5 (.int .i64 (.ofNat 1)) fun v26_6 =>
  hG (some v26_6) true (fun _ => hFieldAddr Tryz.prog 24 a1_3 0 fun v28_33 =>
  loadK Tryz.prog 3 v28_33 h fun v29_34 =>
  binK Tryz.prog .lss 3 (.tmp 29) (.const (.int .i64 (.ofNat 6))) v29_34 (.int .i64 (.ofNat 6)) fun v30_35 =>
  H56_g7 k  a1_3 v26_6 (some v28_33) (some v29_34) (some v30_35) h nx) (fun _ => H56_g7 k  a1_3 v26_6 none none none h nx)
noncomputable def H56_j49 (k : KV) (ih44 : Value → Value → Value → Value → Heap → Nat → Bool) (a1_50 : Value) (a11_50 : Value) (a12_50 : Value) (a13_50 : Value) (h : Heap) (nx : Nat) : Bool :=
  binK Tryz.prog .add 3 (.tmp 13) (.const (.int .i64 (.ofNat 1))) a13_50 (.int .i64 (.ofNat 1)) fun v23_51 =>
  ih44 a1_50 a11_50 a12_50 v23_51 h nx
noncomputable def H56_g55 (k : KV) (ih44 : Value → Value → Value → Value → Heap → Nat → Bool) (a1_48 : Value) (a11_48 : Value) (a12_48 : Value) (a13_48 : Value) (v18_54 : Value) (o20_56 : Option Value) (o21_56 : Option Value) (h : Heap) (nx : Nat) : Bool :=
  hPick v18_54 (some (.bool true)) o21_56 fun v22_57 =>
  hIf v22_57 (fun _ => false) (fun _ => H56_j49 k ih44 a1_48 a11_48 a12_48 a13_48 h nx)
noncomputable def H56_j47 (k : KV) (ih44 : Value → Value → Value → Value → Heap → Nat → Bool) (a1_48 : Value) (a11_48 : Value) (a12_48 : Value) (a13_48 : Value) (h : Heap) (nx : Nat) : Bool :=
  hIndexAddr Tryz.prog 31 a11_48 a13_48 fun v15_52 =>
  loadK Tryz.prog 3 v15_52 h fun v16_53 =>
  binK Tryz.prog .lss 3 (.tmp 17) (.const (.int .i64 (.ofNat 0))) v16_53 (.int .i64 (.ofNat 0)) fun v18_54 =>
  hG (some v18_54) false (fun _ => binK Tryz.prog .gtr 3 (.tmp 20) (.const (.int .i64 (.ofNat 2147483647))) v16_53 (.int .i64 (.ofNat 2147483647)) fun v21_58 =>
  H56_g55 k ih44 a1_48 a11_48 a12_48 a13_48 v18_54 (some v16_53) (some v21_58) h nx) (fun _ => H56_g55 k ih44 a1_48 a11_48 a12_48 a13_48 v18_54 none none h nx)
noncomputable def H56_l44 (k : KV)  (n : Nat) : Value → Value → Value → Value → Heap → Nat → Bool :=
  Nat.rec (motive := fun _ => Value → Value → Value → Value → Heap → Nat → Bool) (fun _ _ _ _ _ _ => false) (fun _ ih44 a1_45 a11_45 a12_45 a13_45 h nx => binK Tryz.prog .lss 3 (.tmp 13) (.tmp 12) a13_45 a12_45 fun v14_46 =>
  hIf v14_46 (fun _ => H56_j47 k ih44 a1_45 a11_45 a12_45 a13_45 h nx) (fun _ => H56_j2 k  a1_45 h nx)) n
noncomputable def H56 (a0 : Value) (h : Heap) (nx : Nat) (k : KV) : Bool :=
  hBox a0 h nx fun v1_1 h1 nx1 =>
  hFieldAddr Tryz.prog 24 v1_1 1 fun v5_36 =>
  loadK Tryz.prog 3 v5_36 h1 fun v6_37 =>
  hFieldAddr Tryz.prog 24 v1_1 2 fun v7_38 =>
  loadK Tryz.prog 3 v7_38 h1 fun v8_39 =>
  hFieldAddr Tryz.prog 24 v1_1 3 fun v9_40 =>
  loadK Tryz.prog 3 v9_40 h1 fun v10_41 =>
  hBuildSlice Tryz.prog 31 3 [(0, v6_37), (1, v8_39), (2, v10_41)] h1 nx1 fun v11_42 h42 nx42 =>
  lenK Tryz.prog 31 v11_42 h42 fun v12_43 =>
  H56_l44 k  200000 v1_1 v11_42 v12_43 (.int .i64 (.ofNat 0)) h42 nx42
theorem sim56 {a0 : Value} {h : Heap} {nx : Nat} {k : KV} (H : H56 a0 h nx k = true) : ∃ v h' nx', k v h' nx' = true ∧ CallSim Tryz.prog 56 [a0] h nx v h' nx' := by
  refine fn_rule Tryz.func56 rfl rfl ?_
  refine CJ.seq ?_
  refine CJ.region ?_
  refine OJ.fu rfl rfl rfl (r_box rfl rfl H) ?_
  intro v1_1 h1 nx1 H
  refine OJ.mv rfl rfl rfl (r_assign rfl rfl) ?_
  refine OJ.fin ?_
  refine CJ.seq (CJ.cut (X := Value × Unit) (fun x h nx => H56_j2 k  x.1 h nx) (fun x => [(1, some x.1)]) ?_ ?_)
  · refine CJ.seq ?_
    refine CJ.region ?_
    refine OJ.rd rfl rfl rfl (r_fieldAddr rfl rfl H) ?_
    intro v5_36 H
    refine OJ.rd rfl rfl rfl (r_load rfl rfl H) ?_
    intro v6_37 H
    refine OJ.rd rfl rfl rfl (r_fieldAddr rfl rfl H) ?_
    intro v7_38 H
    refine OJ.rd rfl rfl rfl (r_load rfl rfl H) ?_
    intro v8_39 H
    refine OJ.rd rfl rfl rfl (r_fieldAddr rfl rfl H) ?_
    intro v9_40 H
    refine OJ.rd rfl rfl rfl (r_load rfl rfl H) ?_
    intro v10_41 H
    refine OJ.fu rfl rfl rfl (r_buildSlice (vs := [(0, v6_37), (1, v8_39), (2, v10_41)]) rfl (And.intro rfl (And.intro rfl (And.intro rfl (And.intro rfl (And.intro rfl (And.intro rfl True.intro)))))) H) ?_
    intro v11_42 h42 nx42 H
    refine OJ.rd rfl rfl rfl (r_len (x := default) rfl rfl (And.intro rfl True.intro) rfl H) ?_
    intro v12_43 H
    refine OJ.mv rfl rfl rfl (r_move rfl rfl) ?_
    refine OJ.fin ?_
    refine CJ.block ?_
    refine CJ.weaken [(1, (some v1_1)), (11, (some v11_42)), (12, (some v12_43)), (13, (some (.int .i64 (.ofNat 0))))] (And.intro rfl (And.intro rfl (And.intro rfl (And.intro rfl True.intro)))) ?_
    refine CJ.loop_ind (X := Value × Value × Value × Value × Unit) (fun n x h nx => H56_l44 k  n x.1 x.2.1 x.2.2.1 x.2.2.2.1 h nx) (fun x => [(1, some x.1), (11, some x.2.1), (12, some x.2.2.1), (13, some x.2.2.2.1)]) (fun _ _ _ => rfl) ?_ 200000 (v1_1, v11_42, v12_43, (.int .i64 (.ofNat 0)), ()) _ _ H
    intro ih44n ih44p ⟨a1_45, a11_45, a12_45, a13_45, _u⟩ h nx H
    let ih44 := H56_l44 k  ih44n
    refine CJ.seq ?_
    refine CJ.region ?_
    refine OJ.rd rfl rfl rfl (r_bin rfl rfl rfl H) ?_
    intro v14_46 H
    refine OJ.fin ?_
    refine CJ.seq (CJ.cut (X := Value × Value × Value × Value × Unit) (fun x h nx => H56_j47 k ih44 x.1 x.2.1 x.2.2.1 x.2.2.2.1 h nx) (fun x => [(1, some x.1), (11, some x.2.1), (12, some x.2.2.1), (13, some x.2.2.2.1)]) ?_ ?_)
    · refine CJ.ite rfl H (fun H => ?_) (fun H => ?_)
      · exact CJ.skip [(1, (some a1_45)), (11, (some a11_45)), (12, (some a12_45)), (13, (some a13_45))] (And.intro rfl (And.intro rfl (And.intro rfl (And.intro rfl True.intro)))) (Exists.intro (a1_45, a11_45, a12_45, a13_45, ()) (And.intro rfl H))
      · exact CJ.exit [(1, (some a1_45))] (And.intro rfl True.intro) (Exists.intro (a1_45, ()) (And.intro rfl H))
    · intro ⟨a1_48, a11_48, a12_48, a13_48, _u⟩ h nx H
      refine CJ.seq (CJ.cut (X := Value × Value × Value × Value × Unit) (fun x h nx => H56_j49 k ih44 x.1 x.2.1 x.2.2.1 x.2.2.2.1 h nx) (fun x => [(1, some x.1), (11, some x.2.1), (12, some x.2.2.1), (13, some x.2.2.2.1)]) ?_ ?_)
      · refine CJ.block ?_
        refine CJ.seq ?_
        refine CJ.region ?_
        refine OJ.rd rfl rfl rfl (r_indexAddr rfl rfl rfl H) ?_
        intro v15_52 H
        refine OJ.rd rfl rfl rfl (r_load rfl rfl H) ?_
        intro v16_53 H
        refine OJ.mv rfl rfl rfl (r_assign rfl rfl) ?_
        refine OJ.fin ?_
        refine CJ.seq ?_
        refine CJ.region ?_
        refine OJ.mv rfl rfl rfl (r_move rfl rfl) ?_
        refine OJ.rd rfl rfl rfl (r_bin rfl rfl rfl H) ?_
        intro v18_54 H
        refine OJ.mv rfl rfl rfl (r_move rfl rfl) ?_
        refine OJ.cut (X := Option Value × Option Value × Unit) 2 (fun x h nx => H56_g55 k ih44 a1_48 a11_48 a12_48 a13_48 v18_54 x.1 x.2.1 h nx) (fun x => [(20, x.1), (21, x.2.1), (1, (some a1_48)), (11, (some a11_48)), (12, (some a12_48)), (13, (some a13_48)), (19, (some v18_54))]) ?_ (fun next => ?_)
        · intro ⟨o20_56, o21_56, _u⟩ h nx H
          refine OJ.rd rfl rfl rfl (r_pick rfl rfl rfl rfl H) ?_
          intro v22_57 H
          refine OJ.fin ?_
          refine CJ.ite rfl H (fun H => ?_) (fun H => ?_)
          · cases H
          · exact CJ.skip [(1, (some a1_48)), (11, (some a11_48)), (12, (some a12_48)), (13, (some a13_48))] (And.intro rfl (And.intro rfl (And.intro rfl (And.intro rfl True.intro)))) (Exists.intro (a1_48, a11_48, a12_48, a13_48, ()) (And.intro rfl H))
        · rcases hG_true H with ⟨g, H⟩ | ⟨g, H⟩
          · refine OJ.gmv rfl rfl rfl g rfl rfl (r_move rfl rfl) ?_
            refine OJ.grd rfl rfl rfl g rfl rfl (r_bin rfl rfl rfl H) ?_
            intro v21_58 H
            exact OJ.weaken [(20, (some v16_53)), (21, (some v21_58)), (1, (some a1_48)), (11, (some a11_48)), (12, (some a12_48)), (13, (some a13_48)), (19, (some v18_54))] (And.intro rfl (And.intro rfl (And.intro rfl (And.intro rfl (And.intro rfl (And.intro rfl (And.intro rfl True.intro))))))) (next ((some v16_53), (some v21_58), ()) _ _ H)
          · refine OJ.no rfl rfl rfl g rfl rfl ?_
            refine OJ.no rfl rfl rfl g rfl rfl ?_
            exact OJ.weaken [(20, none), (21, none), (1, (some a1_48)), (11, (some a11_48)), (12, (some a12_48)), (13, (some a13_48)), (19, (some v18_54))] (And.intro rfl (And.intro rfl (And.intro rfl (And.intro rfl (And.intro rfl (And.intro rfl (And.intro rfl True.intro))))))) (next (none, none, ()) _ _ H)
      · intro ⟨a1_50, a11_50, a12_50, a13_50, _u⟩ h nx H
        refine CJ.region ?_
        refine OJ.rd rfl rfl rfl (r_bin rfl rfl rfl H) ?_
        intro v23_51 H
        refine OJ.mv rfl rfl rfl (r_move rfl rfl) ?_
        exact OJ.done [(1, (some a1_50)), (11, (some a11_50)), (12, (some a12_50)), (13, (some v23_51))] (And.intro rfl (And.intro rfl (And.intro rfl (And.intro rfl True.intro)))) (ih44p (a1_50, a11_50, a12_50, v23_51, ()) _ _ H)
  · intro ⟨a1_3, _u⟩ h nx H
    refine CJ.seq ?_
    refine CJ.region ?_
    refine OJ.rd rfl rfl rfl (r_fieldAddr rfl rfl H) ?_
    intro v24_4 H
    refine OJ.rd rfl rfl rfl (r_load rfl rfl H) ?_
    intro v25_5 H
    refine OJ.rd rfl rfl rfl (r_bin rfl rfl rfl H) ?_
    intro v26_6 H
    refine OJ.mv rfl rfl rfl (r_move rfl rfl) ?_
    refine OJ.cut (X := Option Value × Option Value × Option Value × Unit) 3 (fun x h nx => H56_g7 k  a1_3 v26_6 x.1 x.2.1 x.2.2.1 h nx) (fun x => [(28, x.1), (29, x.2.1), (30, x.2.2.1), (1, (some a1_3)), (27, (some v26_6))]) ?_ (fun next => ?_)
    · intro ⟨o28_8, o29_8, o30_8, _u⟩ h nx H
      refine OJ.rd rfl rfl rfl (r_pick rfl rfl rfl rfl H) ?_
      intro v31_9 H
      refine OJ.mv rfl rfl rfl (r_move rfl rfl) ?_
      refine OJ.cut (X := Option Value × Option Value × Option Value × Option Value × Unit) 4 (fun x h nx => H56_g10 k  a1_3 v31_9 x.1 x.2.1 x.2.2.1 x.2.2.2.1 h nx) (fun x => [(33, x.1), (34, x.2.1), (35, x.2.2.1), (36, x.2.2.2.1), (1, (some a1_3)), (32, (some v31_9))]) ?_ (fun next => ?_)
      · intro ⟨o33_11, o34_11, o35_11, o36_11, _u⟩ h nx H
        refine OJ.rd rfl rfl rfl (r_pick rfl rfl rfl rfl H) ?_
        intro v37_12 H
        refine OJ.mv rfl rfl rfl (r_move rfl rfl) ?_
        refine OJ.cut (X := Option Value × Option Value × Option Value × Option Value × Unit) 4 (fun x h nx => H56_g13 k  a1_3 v37_12 x.1 x.2.1 x.2.2.1 x.2.2.2.1 h nx) (fun x => [(39, x.1), (40, x.2.1), (41, x.2.2.1), (42, x.2.2.2.1), (1, (some a1_3)), (38, (some v37_12))]) ?_ (fun next => ?_)
        · intro ⟨o39_14, o40_14, o41_14, o42_14, _u⟩ h nx H
          refine OJ.cut (X := Option Value × Option Value × Option Value × Option Value × Unit) 4 (fun x h nx => H56_g15 k  v37_12 o42_14 x.1 x.2.1 x.2.2.1 x.2.2.2.1 h nx) (fun x => [(43, x.1), (44, x.2.1), (45, x.2.2.1), (46, x.2.2.2.1), (38, (some v37_12)), (42, o42_14)]) ?_ (fun next => ?_)
          · intro ⟨o43_16, o44_16, o45_16, o46_16, _u⟩ h nx H
            refine OJ.cut (X := Option Value × Unit) 1 (fun x h nx => H56_g17 k  v37_12 x.1 h nx) (fun x => [(47, x.1), (38, (some v37_12))]) ?_ (fun next => ?_)
            · intro ⟨o47_18, _u⟩ h nx H
              refine OJ.rd rfl rfl rfl (r_pick rfl rfl rfl rfl H) ?_
              intro v48_19 H
              refine OJ.mv rfl rfl rfl (r_assign rfl rfl) ?_
              refine OJ.fin ?_
              refine CJ.ret1 ?_
              exact ret_one (Or.inr rfl) rfl rfl H
            · rcases hG_true H with ⟨g, H⟩ | ⟨g, H⟩
              · obtain ⟨v42_20, eq_, G_⟩ := optK_true H
                clear H
                subst eq_
                have H := G_
                clear G_
                refine OJ.grd rfl rfl rfl g rfl rfl (r_pick rfl rfl rfl rfl H) ?_
                intro v47_21 H
                exact OJ.weaken [(47, (some v47_21)), (38, (some v37_12))] (And.intro rfl (And.intro rfl True.intro)) (next ((some v47_21), ()) _ _ H)
              · refine OJ.no rfl rfl rfl g rfl rfl ?_
                exact OJ.weaken [(47, none), (38, (some v37_12))] (And.intro rfl (And.intro rfl True.intro)) (next (none, ()) _ _ H)
          · rcases hG_true H with ⟨g, H⟩ | ⟨g, H⟩
            · refine OJ.grd rfl rfl rfl g rfl rfl (r_fieldAddr rfl rfl H) ?_
              intro v43_22 H
              refine OJ.grd rfl rfl rfl g rfl rfl (r_load rfl rfl H) ?_
              intro v44_23 H
              refine OJ.grd rfl rfl rfl g rfl rfl (r_len (x := default) rfl rfl (And.intro rfl True.intro) rfl H) ?_
              intro v45_24 H
              refine OJ.grd rfl rfl rfl g rfl rfl (r_bin rfl rfl rfl H) ?_
              intro v46_25 H
              exact OJ.weaken [(43, (some v43_22)), (44, (some v44_23)), (45, (some v45_24)), (46, (some v46_25)), (38, (some v37_12)), (42, o42_14)] (And.intro rfl (And.intro rfl (And.intro rfl (And.intro rfl (And.intro rfl (And.intro rfl True.intro)))))) (next ((some v43_22), (some v44_23), (some v45_24), (some v46_25), ()) _ _ H)
            · refine OJ.no rfl rfl rfl g rfl rfl ?_
              refine OJ.no rfl rfl rfl g rfl rfl ?_
              refine OJ.no rfl rfl rfl g rfl rfl ?_
              refine OJ.no rfl rfl rfl g rfl rfl ?_
              exact OJ.weaken [(43, none), (44, none), (45, none), (46, none), (38, (some v37_12)), (42, o42_14)] (And.intro rfl (And.intro rfl (And.intro rfl (And.intro rfl (And.intro rfl (And.intro rfl True.intro)))))) (next (none, none, none, none, ()) _ _ H)
        · rcases hG_true H with ⟨g, H⟩ | ⟨g, H⟩
          · refine OJ.grd rfl rfl rfl g rfl rfl (r_fieldAddr rfl rfl H) ?_
            intro v39_26 H
            refine OJ.grd rfl rfl rfl g rfl rfl (r_load rfl rfl H) ?_
            intro v40_27 H
            refine OJ.grd rfl rfl rfl g rfl rfl (r_bin rfl rfl rfl H) ?_
            intro v41_28 H
            refine OJ.gmv rfl rfl rfl g rfl rfl (r_move rfl rfl) ?_
            exact OJ.weaken [(39, (some v39_26)), (40, (some v40_27)), (41, (some v41_28)), (42, (some v41_28)), (1, (some a1_3)), (38, (some v37_12))] (And.intro rfl (And.intro rfl (And.intro rfl (And.intro rfl (And.intro rfl (And.intro rfl True.intro)))))) (next ((some v39_26), (some v40_27), (some v41_28), (some v41_28), ()) _ _ H)
          · refine OJ.no rfl rfl rfl g rfl rfl ?_
            refine OJ.no rfl rfl rfl g rfl rfl ?_
            refine OJ.no rfl rfl rfl g rfl rfl ?_
            refine OJ.no rfl rfl rfl g rfl rfl ?_
            exact OJ.weaken [(39, none), (40, none), (41, none), (42, none), (1, (some a1_3)), (38, (some v37_12))] (And.intro rfl (And.intro rfl (And.intro rfl (And.intro rfl (And.intro rfl (And.intro rfl True.intro)))))) (next (none, none, none, none, ()) _ _ H)
      · rcases hG_true H with ⟨g, H⟩ | ⟨g, H⟩
        · refine OJ.grd rfl rfl rfl g rfl rfl (r_fieldAddr rfl rfl H) ?_
          intro v33_29 H
          refine OJ.grd rfl rfl rfl g rfl rfl (r_load rfl rfl H) ?_
          intro v34_30 H
          refine OJ.grd rfl rfl rfl g rfl rfl (r_len (x := default) rfl rfl (And.intro rfl True.intro) rfl H) ?_
          intro v35_31 H
          refine OJ.grd rfl rfl rfl g rfl rfl (r_bin rfl rfl rfl H) ?_
          intro v36_32 H
          exact OJ.weaken [(33, (some v33_29)), (34, (some v34_30)), (35, (some v35_31)), (36, (some v36_32)), (1, (some a1_3)), (32, (some v31_9))] (And.intro rfl (And.intro rfl (And.intro rfl (And.intro rfl (And.intro rfl (And.intro rfl True.intro)))))) (next ((some v33_29), (some v34_30), (some v35_31), (some v36_32), ()) _ _ H)
        · refine OJ.no rfl rfl rfl g rfl rfl ?_
          refine OJ.no rfl rfl rfl g rfl rfl ?_
          refine OJ.no rfl rfl rfl g rfl rfl ?_
          refine OJ.no rfl rfl rfl g rfl rfl ?_
          exact OJ.weaken [(33, none), (34, none), (35, none), (36, none), (1, (some a1_3)), (32, (some v31_9))] (And.intro rfl (And.intro rfl (And.intro rfl (And.intro rfl (And.intro rfl (And.intro rfl True.intro)))))) (next (none, none, none, none, ()) _ _ H)
    · rcases hG_true H with ⟨g, H⟩ | ⟨g, H⟩
      · refine OJ.grd rfl rfl rfl g rfl rfl (r_fieldAddr rfl rfl H) ?_
        intro v28_33 H
        refine OJ.grd rfl rfl rfl g rfl rfl (r_load rfl rfl H) ?_
        intro v29_34 H
        refine OJ.grd rfl rfl rfl g rfl rfl (r_bin rfl rfl rfl H) ?_
        intro v30_35 H
        exact OJ.weaken [(28, (some v28_33)), (29, (some v29_34)), (30, (some v30_35)), (1, (some a1_3)), (27, (some v26_6))] (And.intro rfl (And.intro rfl (And.intro rfl (And.intro rfl (And.intro rfl True.intro))))) (next ((some v28_33), (some v29_34), (some v30_35), ()) _ _ H)
      · refine OJ.no rfl rfl rfl g rfl rfl ?_
        refine OJ.no rfl rfl rfl g rfl rfl ?_
        refine OJ.no rfl rfl rfl g rfl rfl ?_
        exact OJ.weaken [(28, none), (29, none), (30, none), (1, (some a1_3)), (27, (some v26_6))] (And.intro rfl (And.intro rfl (And.intro rfl (And.intro rfl (And.intro rfl True.intro))))) (next (none, none, none, ()) _ _ H)

/-! 95 -/
noncomputable def H95_j2 (k : KV)  (a5_3 : Value) (h : Heap) (nx : Nat) : Bool :=
  k a5_3 h nx
noncomputable def H95_j8 (k : KV) (ih4 : Value → Value → Value → Value → Heap → Nat → Bool) (a0_9 : Value) (a1_9 : Value) (a5_9 : Value) (a6_9 : Value) (h : Heap) (nx : Nat) : Bool :=
  binK Tryz.prog .add 3 (.tmp 11) (.const (.int .i64 (.ofNat 1))) a6_9 (.int .i64 (.ofNat 1)) fun v12_10 =>
  ih4 a0_9 a1_9 a5_9 v12_10 h nx
noncomputable def H95_j6 (k : KV) (ih4 : Value → Value → Value → Value → Heap → Nat → Bool) (a0_7 : Value) (a1_7 : Value) (a5_7 : Value) (a6_7 : Value) (h : Heap) (nx : Nat) : Bool :=
  binK Tryz.prog .rem 3 (.tmp 13) (.const (.int .i64 (.ofNat 256))) a0_7 (.int .i64 (.ofNat 256)) fun v14_11 =>
  hConv Tryz.prog 3 5 v14_11 h fun v15_12 =>
  hBuildSlice Tryz.prog 22 1 [(0, v15_12)] h nx fun v16_13 h13 nx13 =>
  hAppend Tryz.prog 22 22 v16_13 a5_7 h13 nx13 fun v18_14 h14 nx14 =>
  binK Tryz.prog .quo 3 (.tmp 19) (.const (.int .i64 (.ofNat 256))) a0_7 (.int .i64 (.ofNat 256)) fun v20_15 =>
  H95_j8 k ih4 v20_15 a1_7 v18_14 a6_7 h14 nx14
noncomputable def H95_l4 (k : KV)  (n : Nat) : Value → Value → Value → Value → Heap → Nat → Bool :=
  Nat.rec (motive := fun _ => Value → Value → Value → Value → Heap → Nat → Bool) (fun _ _ _ _ _ _ => false) (fun _ ih4 a0_5 a1_5 a5_5 a6_5 h nx => binK Tryz.prog .lss 3 (.tmp 8) (.tmp 9) a6_5 a1_5 fun v10_16 =>
  hIf v10_16 (fun _ => H95_j6 k ih4 a0_5 a1_5 a5_5 a6_5 h nx) (fun _ => H95_j2 k  a5_5 h nx)) n
noncomputable def H95 (a0 : Value) (a1 : Value) (h : Heap) (nx : Nat) (k : KV) : Bool :=
  hBuildSlice Tryz.prog 22 0 [] h nx fun v7_1 h1 nx1 =>
  H95_l4 k  200000 a0 a1 v7_1 (.int .i64 (.ofNat 0)) h1 nx1
theorem sim95 {a0 a1 : Value} {h : Heap} {nx : Nat} {k : KV} (H : H95 a0 a1 h nx k = true) : ∃ v h' nx', k v h' nx' = true ∧ CallSim Tryz.prog 95 [a0, a1] h nx v h' nx' := by
  refine fn_rule Tryz.func95 rfl rfl ?_
  refine CJ.seq ?_
  refine CJ.region ?_
  refine OJ.mv rfl rfl rfl (r_assign rfl rfl) ?_
  refine OJ.fin ?_
  refine CJ.seq ?_
  refine CJ.region ?_
  refine OJ.fu rfl rfl rfl (r_buildSlice (vs := []) rfl True.intro H) ?_
  intro v7_1 h1 nx1 H
  refine OJ.mv rfl rfl rfl (r_assign rfl rfl) ?_
  refine OJ.fin ?_
  refine CJ.seq (CJ.cut (X := Value × Unit) (fun x h nx => H95_j2 k  x.1 h nx) (fun x => [(5, some x.1)]) ?_ ?_)
  · refine CJ.seq ?_
    refine CJ.region ?_
    refine OJ.mv rfl rfl rfl (r_assign rfl rfl) ?_
    refine OJ.fin ?_
    refine CJ.block ?_
    refine CJ.weaken [(0, (some a0)), (1, (some a1)), (5, (some v7_1)), (6, (some (.int .i64 (.ofNat 0))))] (And.intro rfl (And.intro rfl (And.intro rfl (And.intro rfl True.intro)))) ?_
    refine CJ.loop_ind (X := Value × Value × Value × Value × Unit) (fun n x h nx => H95_l4 k  n x.1 x.2.1 x.2.2.1 x.2.2.2.1 h nx) (fun x => [(0, some x.1), (1, some x.2.1), (5, some x.2.2.1), (6, some x.2.2.2.1)]) (fun _ _ _ => rfl) ?_ 200000 (a0, a1, v7_1, (.int .i64 (.ofNat 0)), ()) _ _ H
    intro ih4n ih4p ⟨a0_5, a1_5, a5_5, a6_5, _u⟩ h nx H
    let ih4 := H95_l4 k  ih4n
    refine CJ.seq (CJ.cut (X := Value × Value × Value × Value × Unit) (fun x h nx => H95_j6 k ih4 x.1 x.2.1 x.2.2.1 x.2.2.2.1 h nx) (fun x => [(0, some x.1), (1, some x.2.1), (5, some x.2.2.1), (6, some x.2.2.2.1)]) ?_ ?_)
    · refine CJ.seq ?_
      refine CJ.region ?_
      refine OJ.mv rfl rfl rfl (r_move rfl rfl) ?_
      refine OJ.mv rfl rfl rfl (r_move rfl rfl) ?_
      refine OJ.rd rfl rfl rfl (r_bin rfl rfl rfl H) ?_
      intro v10_16 H
      refine OJ.fin ?_
      refine CJ.ite rfl H (fun H => ?_) (fun H => ?_)
      · exact CJ.skip [(0, (some a0_5)), (1, (some a1_5)), (5, (some a5_5)), (6, (some a6_5))] (And.intro rfl (And.intro rfl (And.intro rfl (And.intro rfl True.intro)))) (Exists.intro (a0_5, a1_5, a5_5, a6_5, ()) (And.intro rfl H))
      · exact CJ.exit [(5, (some a5_5))] (And.intro rfl True.intro) (Exists.intro (a5_5, ()) (And.intro rfl H))
    · intro ⟨a0_7, a1_7, a5_7, a6_7, _u⟩ h nx H
      refine CJ.seq (CJ.cut (X := Value × Value × Value × Value × Unit) (fun x h nx => H95_j8 k ih4 x.1 x.2.1 x.2.2.1 x.2.2.2.1 h nx) (fun x => [(0, some x.1), (1, some x.2.1), (5, some x.2.2.1), (6, some x.2.2.2.1)]) ?_ ?_)
      · refine CJ.block ?_
        refine CJ.seq ?_
        refine CJ.region ?_
        refine OJ.mv rfl rfl rfl (r_move rfl rfl) ?_
        refine OJ.rd rfl rfl rfl (r_bin rfl rfl rfl H) ?_
        intro v14_11 H
        refine OJ.rd rfl rfl rfl (r_conv rfl rfl H) ?_
        intro v15_12 H
        refine OJ.fu rfl rfl rfl (r_buildSlice (vs := [(0, v15_12)]) rfl (And.intro rfl (And.intro rfl True.intro)) H) ?_
        intro v16_13 h13 nx13 H
        refine OJ.mv rfl rfl rfl (r_move rfl rfl) ?_
        refine OJ.fu rfl rfl rfl (r_append1 rfl rfl (And.intro rfl (And.intro rfl True.intro)) rfl H) ?_
        intro v18_14 h14 nx14 H
        refine OJ.mv rfl rfl rfl (r_assign rfl rfl) ?_
        refine OJ.fin ?_
        refine CJ.region ?_
        refine OJ.mv rfl rfl rfl (r_move rfl rfl) ?_
        refine OJ.rd rfl rfl rfl (r_bin rfl rfl rfl H) ?_
        intro v20_15 H
        refine OJ.mv rfl rfl rfl (r_assign rfl rfl) ?_
        exact OJ.done [(0, (some v20_15)), (1, (some a1_7)), (5, (some v18_14)), (6, (some a6_7))] (And.intro rfl (And.intro rfl (And.intro rfl (And.intro rfl True.intro)))) (Exists.intro (v20_15, a1_7, v18_14, a6_7, ()) (And.intro rfl H))
      · intro ⟨a0_9, a1_9, a5_9, a6_9, _u⟩ h nx H
        refine CJ.region ?_
        refine OJ.mv rfl rfl rfl (r_move rfl rfl) ?_
        refine OJ.rd rfl rfl rfl (r_bin rfl rfl rfl H) ?_
        intro v12_10 H
        refine OJ.mv rfl rfl rfl (r_assign rfl rfl) ?_
        exact OJ.done [(0, (some a0_9)), (1, (some a1_9)), (5, (some a5_9)), (6, (some v12_10))] (And.intro rfl (And.intro rfl (And.intro rfl (And.intro rfl True.intro)))) (ih4p (a0_9, a1_9, a5_9, v12_10, ()) _ _ H)
  · intro ⟨a5_3, _u⟩ h nx H
    refine CJ.seq ?_
    refine CJ.region ?_
    refine OJ.mv rfl rfl rfl (r_move rfl rfl) ?_
    refine OJ.mv rfl rfl rfl (r_assign rfl rfl) ?_
    refine OJ.fin ?_
    refine CJ.ret1 ?_
    exact ret_one (Or.inr rfl) rfl rfl H

/-! 57 -/
noncomputable def H57_j2 (k : KV)  (a1_3 : Value) (a3_3 : Value) (h : Heap) (nx : Nat) : Bool :=
  hFieldAddr Tryz.prog 24 a1_3 1 fun v13_4 =>
  loadK Tryz.prog 3 v13_4 h fun v14_5 =>
  H95 v14_5 (.int .i64 (.ofNat 4)) h nx fun v15_6 h6 nx6 =>
  hAppend Tryz.prog 22 22 a3_3 v15_6 h6 nx6 fun v16_7 h7 nx7 =>
  hFieldAddr Tryz.prog 24 a1_3 2 fun v18_8 =>
  loadK Tryz.prog 3 v18_8 h7 fun v19_9 =>
  H95 v19_9 (.int .i64 (.ofNat 4)) h7 nx7 fun v20_10 h10 nx10 =>
  hAppend Tryz.prog 22 22 v16_7 v20_10 h10 nx10 fun v21_11 h11 nx11 =>
  hFieldAddr Tryz.prog 24 a1_3 3 fun v23_12 =>
  loadK Tryz.prog 3 v23_12 h11 fun v24_13 =>
  H95 v24_13 (.int .i64 (.ofNat 4)) h11 nx11 fun v25_14 h14 nx14 =>
  hAppend Tryz.prog 22 22 v21_11 v25_14 h14 nx14 fun v26_15 h15 nx15 =>
  hFieldAddr Tryz.prog 24 a1_3 4 fun v28_16 =>
  loadK Tryz.prog 22 v28_16 h15 fun v29_17 =>
  hAppend Tryz.prog 22 22 v26_15 v29_17 h15 nx15 fun v30_18 h18 nx18 =>
  H92 v30_18 h18 nx18 fun v31_19 h19 nx19 =>
  k v31_19 h19 nx19
noncomputable def H57 (a0 : Value) (h : Heap) (nx : Nat) (k : KV) : Bool :=
  hBox a0 h nx fun v1_1 h1 nx1 =>
  hFieldAddr Tryz.prog 24 v1_1 4 fun v4_21 =>
  loadK Tryz.prog 22 v4_21 h1 fun v5_22 =>
  lenK Tryz.prog 22 v5_22 h1 fun v6_23 =>
  hFieldAddr Tryz.prog 24 v1_1 0 fun v8_24 =>
  loadK Tryz.prog 3 v8_24 h1 fun v9_25 =>
  H95 v6_23 (.int .i64 (.ofNat 2)) h1 nx1 fun v7_26 h26 nx26 =>
  loadK Tryz.prog 3 v8_24 h26 fun v9_28 =>
  hEq v9_28 v9_25 fun _ => H95 v9_25 (.int .i64 (.ofNat 1)) h26 nx26 fun v10_29 h29 nx29 =>
  hAppend Tryz.prog 22 22 v7_26 v10_29 h29 nx29 fun v11_30 h30 nx30 =>
  H57_j2 k  v1_1 v11_30 h30 nx30
theorem sim57 {a0 : Value} {h : Heap} {nx : Nat} {k : KV} (H : H57 a0 h nx k = true) : ∃ v h' nx', k v h' nx' = true ∧ CallSim Tryz.prog 57 [a0] h nx v h' nx' := by
  refine fn_rule Tryz.func57 rfl rfl ?_
  refine CJ.seq ?_
  refine CJ.region ?_
  refine OJ.fu rfl rfl rfl (r_box rfl rfl H) ?_
  intro v1_1 h1 nx1 H
  refine OJ.mv rfl rfl rfl (r_assign rfl rfl) ?_
  refine OJ.fin ?_
  refine CJ.seq (CJ.cut (X := Value × Value × Unit) (fun x h nx => H57_j2 k  x.1 x.2.1 h nx) (fun x => [(1, some x.1), (3, some x.2.1)]) ?_ ?_)
  · refine DJ.hm [0, 1, 3, 7, 0, 16, 63, 127, 255] (by decide +kernel) ?_
    intro hm20
    refine DJ.any 0 [(1, (some v1_1))] (a_fieldAddr rfl rfl H) ?_
    intro v4_21 H S20_0
    refine DJ.rd 1 [(4, (some v4_21))] h1 nx1 (r_load rfl rfl H) ?_
    intro v5_22 H S20_1
    refine DJ.rd 2 [(5, (some v5_22))] h1 nx1 (r_len (x := default) rfl rfl (And.intro rfl True.intro) rfl H) ?_
    intro v6_23 H S20_2
    refine DJ.any 4 [(1, (some v1_1))] (a_fieldAddr rfl rfl H) ?_
    intro v8_24 H S20_4
    refine DJ.rd 5 [(8, (some v8_24))] h1 nx1 (r_load rfl rfl H) ?_
    intro v9_25 H S20_5
    refine DJ.fu 3 [(6, (some v6_23))] h1 nx1 (r_call (args := [v6_23, (.int .i64 (.ofNat 2))]) rfl rfl rfl (And.intro rfl (And.intro rfl True.intro)) Tryz.call95 (sim95 H)) ?_
    intro v7_26 h26 nx26 H S20_3
    have I20_3 := S20_3.1
    refine DJ.rd 5 [(8, (some v8_24))] h26 nx26 (r_load rfl rfl H) ?_
    intro v9_28 H Q27
    obtain ⟨q27, H⟩ := hEq_true H
    refine DJ.fu 6 [(9, (some v9_25))] h26 nx26 (r_call (args := [v9_25, (.int .i64 (.ofNat 1))]) rfl rfl rfl (And.intro rfl (And.intro rfl True.intro)) Tryz.call95 (sim95 H)) ?_
    intro v10_29 h29 nx29 H S20_6
    have I20_6 := S20_6.1
    refine DJ.fu 7 [(7, (some v7_26)), (10, (some v10_29))] h29 nx29 (r_append1 rfl rfl (And.intro rfl (And.intro rfl True.intro)) rfl H) ?_
    intro v11_30 h30 nx30 H S20_7
    have I20_7 := S20_7.1
    refine DJ.mv 8 [(11, (some v11_30))] (a_assign rfl rfl) ?_
    intro S20_8
    exact CJ.draw1 [(some v4_21), (some v5_22), (some v6_23), (some v7_26), (some v8_24), (some v9_25), (some v10_29), (some v11_30), (some v11_30)] [3, 6, 7] [(h1, nx1), (h26, nx26), (h29, nx29), (h30, nx30)] [] [0, 1, 2, 3, 4, 5, 6, 7, 8] [0, 1, 2, 3, 4, 5, 6, 7, 8] [0, 1, 2, 3, 4, 5, 6, 7, 8] (by decide +kernel) (And.intro (F_any (Ti := [(1, (some v1_1))]) hm20 [(1, none)] (by decide +kernel) (And.intro rfl (And.intro rfl True.intro)) (guard_no rfl) rfl rfl S20_0) (And.intro (F_read (Ti := [(4, (some v4_21))]) hm20 [(4, some 0)] (by decide +kernel) (And.intro rfl (And.intro rfl True.intro)) (guard_no rfl) rfl rfl 0 1 (by decide +kernel) (And.intro S20_1 True.intro)) (And.intro (F_read (Ti := [(5, (some v5_22))]) hm20 [(5, some 1)] (by decide +kernel) (And.intro rfl (And.intro rfl True.intro)) (guard_no rfl) rfl rfl 0 1 (by decide +kernel) (And.intro S20_2 True.intro)) (And.intro (F_eff (Ti := [(6, (some v6_23))]) hm20 [(6, some 2)] (by decide +kernel) (And.intro rfl (And.intro rfl True.intro)) (guard_no rfl) rfl 0 rfl (by decide +kernel) S20_3 (Grow.refl _ _) (show nx1 ≤ nx1 by omega) True.intro) (And.intro (F_any (Ti := [(1, (some v1_1))]) hm20 [(1, none)] (by decide +kernel) (And.intro rfl (And.intro rfl True.intro)) (guard_no rfl) rfl rfl S20_4) (And.intro (F_read (Ti := [(8, (some v8_24))]) hm20 [(8, some 4)] (by decide +kernel) (And.intro rfl (And.intro rfl True.intro)) (guard_no rfl) rfl rfl 0 2 (by decide +kernel) (And.intro S20_5 (And.intro (opR_eq q27 Q27) True.intro))) (And.intro (F_eff (Ti := [(9, (some v9_25))]) hm20 [(9, some 5)] (by decide +kernel) (And.intro rfl (And.intro rfl True.intro)) (guard_no rfl) rfl 1 rfl (by decide +kernel) S20_6 (Grow.refl _ _) (show nx1 ≤ nx26 by omega) True.intro) (And.intro (F_eff (Ti := [(7, (some v7_26)), (10, (some v10_29))]) hm20 [(7, some 3), (10, some 6)] (by decide +kernel) (And.intro rfl (And.intro rfl (And.intro rfl (And.intro rfl True.intro)))) (guard_no rfl) rfl 2 rfl (by decide +kernel) S20_7 (Grow.refl _ _) (show nx1 ≤ nx29 by omega) True.intro) (And.intro (F_any (Ti := [(11, (some v11_30))]) hm20 [(11, some 7)] (by decide +kernel) (And.intro rfl (And.intro rfl True.intro)) (guard_no rfl) rfl rfl S20_8) True.intro))))))))) rfl (And.intro (by omega) (And.intro (by omega) (And.intro (by omega) (And.intro (by omega) True.intro)))) True.intro (Grow.refl _ _) [(1, none), (3, some 8)] [(1, (some v1_1)), (3, (some v11_30))] (by decide +kernel) (And.intro rfl (And.intro rfl (And.intro rfl (And.intro rfl True.intro)))) rfl (Exists.intro (v1_1, v11_30, ()) (And.intro rfl H))
  · intro ⟨a1_3, a3_3, _u⟩ h nx H
    refine CJ.seq ?_
    refine CJ.region ?_
    refine OJ.mv rfl rfl rfl (r_move rfl rfl) ?_
    refine OJ.rd rfl rfl rfl (r_fieldAddr rfl rfl H) ?_
    intro v13_4 H
    refine OJ.rd rfl rfl rfl (r_load rfl rfl H) ?_
    intro v14_5 H
    refine OJ.fu rfl rfl rfl (r_call (args := [v14_5, (.int .i64 (.ofNat 4))]) rfl rfl rfl (And.intro rfl (And.intro rfl True.intro)) Tryz.call95 (sim95 H)) ?_
    intro v15_6 h6 nx6 H
    refine OJ.fu rfl rfl rfl (r_append1 rfl rfl (And.intro rfl (And.intro rfl True.intro)) rfl H) ?_
    intro v16_7 h7 nx7 H
    refine OJ.mv rfl rfl rfl (r_assign rfl rfl) ?_
    refine OJ.fin ?_
    refine CJ.seq ?_
    refine CJ.region ?_
    refine OJ.mv rfl rfl rfl (r_move rfl rfl) ?_
    refine OJ.rd rfl rfl rfl (r_fieldAddr rfl rfl H) ?_
    intro v18_8 H
    refine OJ.rd rfl rfl rfl (r_load rfl rfl H) ?_
    intro v19_9 H
    refine OJ.fu rfl rfl rfl (r_call (args := [v19_9, (.int .i64 (.ofNat 4))]) rfl rfl rfl (And.intro rfl (And.intro rfl True.intro)) Tryz.call95 (sim95 H)) ?_
    intro v20_10 h10 nx10 H
    refine OJ.fu rfl rfl rfl (r_append1 rfl rfl (And.intro rfl (And.intro rfl True.intro)) rfl H) ?_
    intro v21_11 h11 nx11 H
    refine OJ.mv rfl rfl rfl (r_assign rfl rfl) ?_
    refine OJ.fin ?_
    refine CJ.seq ?_
    refine CJ.region ?_
    refine OJ.mv rfl rfl rfl (r_move rfl rfl) ?_
    refine OJ.rd rfl rfl rfl (r_fieldAddr rfl rfl H) ?_
    intro v23_12 H
    refine OJ.rd rfl rfl rfl (r_load rfl rfl H) ?_
    intro v24_13 H
    refine OJ.fu rfl rfl rfl (r_call (args := [v24_13, (.int .i64 (.ofNat 4))]) rfl rfl rfl (And.intro rfl (And.intro rfl True.intro)) Tryz.call95 (sim95 H)) ?_
    intro v25_14 h14 nx14 H
    refine OJ.fu rfl rfl rfl (r_append1 rfl rfl (And.intro rfl (And.intro rfl True.intro)) rfl H) ?_
    intro v26_15 h15 nx15 H
    refine OJ.mv rfl rfl rfl (r_assign rfl rfl) ?_
    refine OJ.fin ?_
    refine CJ.seq ?_
    refine CJ.region ?_
    refine OJ.mv rfl rfl rfl (r_move rfl rfl) ?_
    refine OJ.rd rfl rfl rfl (r_fieldAddr rfl rfl H) ?_
    intro v28_16 H
    refine OJ.rd rfl rfl rfl (r_load rfl rfl H) ?_
    intro v29_17 H
    refine OJ.fu rfl rfl rfl (r_append1 rfl rfl (And.intro rfl (And.intro rfl True.intro)) rfl H) ?_
    intro v30_18 h18 nx18 H
    refine OJ.fu rfl rfl rfl (r_call (args := [v30_18]) rfl rfl rfl (And.intro rfl True.intro) Tryz.call92 (sim92 H)) ?_
    intro v31_19 h19 nx19 H
    refine OJ.mv rfl rfl rfl (r_assign rfl rfl) ?_
    refine OJ.fin ?_
    refine CJ.ret1 ?_
    exact ret_one (Or.inr rfl) rfl rfl H

/-! 28 -/
noncomputable def H28_j32 (k : KV)  (a2_33 : Value) (a7_33 : Value) (h : Heap) (nx : Nat) : Bool :=
  loadK Tryz.prog 24 a7_33 h fun v65_34 =>
  storeK Tryz.prog 24 a2_33 v65_34 h fun h35 =>
  loadK Tryz.prog 24 a2_33 h35 fun r36 => hNT (.int .i64 (.ofNat 0)) fun _ => k (resV [r36, (.int .i64 (.ofNat 0))]) h35 nx
noncomputable def H28_j38 (k : KV)  (a2_39 : Value) (a7_39 : Value) (a63_39 : Value) (h : Heap) (nx : Nat) : Bool :=
  hIf a63_39 (fun _ => false) (fun _ => H28_j32 k  a2_39 a7_39 h nx)
noncomputable def H28_j9 (k : KV)  (a0_10 : Value) (a2_10 : Value) (a4_10 : Value) (h : Heap) (nx : Nat) : Bool :=
  hBuild Tryz.prog 143 [(0, a4_10)] fun v25_11 =>
  hBox v25_11 h nx fun v26_12 h12 nx12 =>
  H55 v26_12 (.int .i64 (.ofNat 2)) h12 nx12 fun v28_13 h13 nx13 =>
  H55 v26_12 (.int .i64 (.ofNat 1)) h13 nx13 fun v30_14 h14 nx14 =>
  hBuild Tryz.prog 24 [(0, v30_14)] fun v31_15 =>
  hAlloc Tryz.prog 24 h14 nx14 fun v7_16 h16 nx16 =>
  storeK Tryz.prog 24 v7_16 v31_15 h16 fun h17 =>
  H55 v26_12 (.int .i64 (.ofNat 4)) h17 nx16 fun v33_18 h18 nx18 =>
  hFieldAddr Tryz.prog 24 v7_16 1 fun v34_19 =>
  storeK Tryz.prog 3 v34_19 v33_18 h18 fun h20 =>
  H55 v26_12 (.int .i64 (.ofNat 4)) h20 nx18 fun v36_21 h21 nx21 =>
  hFieldAddr Tryz.prog 24 v7_16 2 fun v37_22 =>
  storeK Tryz.prog 3 v37_22 v36_21 h21 fun h23 =>
  H55 v26_12 (.int .i64 (.ofNat 4)) h23 nx21 fun v39_24 h24 nx24 =>
  hFieldAddr Tryz.prog 24 v7_16 3 fun v40_25 =>
  storeK Tryz.prog 3 v40_25 v39_24 h24 fun h26 =>
  hNil v26_12 fun v42_27 =>
  hFieldAddr Tryz.prog 143 v42_27 0 fun v43_28 =>
  loadK Tryz.prog 22 v43_28 h26 fun v44_29 =>
  hFieldAddr Tryz.prog 24 v7_16 4 fun v45_30 =>
  storeK Tryz.prog 22 v45_30 v44_29 h26 fun h31 =>
  hNil v26_12 fun v47_41 =>
  hFieldAddr Tryz.prog 143 v47_41 1 fun v48_42 =>
  loadK Tryz.prog 44 v48_42 h31 fun v49_43 =>
  binK Tryz.prog .neq 44 (.tmp 49) (.const (.int .i64 (.ofNat 0))) v49_43 (.int .i64 (.ofNat 0)) fun v50_44 =>
  hG (some v50_44) false (fun _ => loadK Tryz.prog 24 v7_16 h31 fun v52_46 =>
  H56 v52_46 h31 nx24 fun v53_47 h47 nx47 =>
  hUn Tryz.prog .not v53_47 fun v54_48 =>
  hPick v50_44 (some (.bool true)) (some v54_48) fun v55_49 =>
  hG (some v55_49) false (fun _ => loadK Tryz.prog 24 v7_16 h47 fun v57_51 =>
  hConv Tryz.prog 22 9 a0_10 h47 fun v61_52 =>
  H57 v57_51 h47 nx47 fun v58_53 h53 nx53 =>
  hConv Tryz.prog 22 9 v58_53 h53 fun v59_54 =>
  binK Tryz.prog .neq 9 (.tmp 59) (.tmp 61) v59_54 v61_52 fun v62_55 =>
  hPick v55_49 (some (.bool true)) (some v62_55) fun v63_56 =>
  hConv Tryz.prog 22 9 a0_10 h53 fun v61_58 =>
  hEq v61_58 v61_52 fun _ => H28_j38 k  a2_10 v7_16 v63_56 h53 nx53) (fun _ => false)) (fun _ => false)
noncomputable def H28_j4 (k : KV)  (a0_5 : Value) (a2_5 : Value) (h : Heap) (nx : Nat) : Bool :=
  H54 a0_5 h nx fun v18_6 h6 nx6 =>
  hExtract v18_6 0 fun v19_7 =>
  hExtract v18_6 1 fun v20_8 =>
  hUn Tryz.prog .not v20_8 fun v22_59 =>
  hIf v22_59 (fun _ => false) (fun _ => H28_j9 k  a0_5 a2_5 v19_7 h6 nx6)
noncomputable def H28_j2 (k : KV)  (a0_3 : Value) (a2_3 : Value) (h : Heap) (nx : Nat) : Bool :=
  lenK Tryz.prog 22 a0_3 h fun v13_60 =>
  binK Tryz.prog .lss 3 (.tmp 13) (.const (.int .i64 (.ofNat 19))) v13_60 (.int .i64 (.ofNat 19)) fun v14_61 =>
  hIf v14_61 (fun _ => false) (fun _ => H28_j4 k  a0_3 a2_3 h nx)
noncomputable def H28 (a0 : Value) (h : Heap) (nx : Nat) (k : KV) : Bool :=
  hAlloc Tryz.prog 24 h nx fun v2_1 h1 nx1 =>
  lenK Tryz.prog 22 a0 h1 fun v9_62 =>
  binK Tryz.prog .gtr 3 (.tmp 9) (.const (.int .i64 (.ofNat 16403))) v9_62 (.int .i64 (.ofNat 16403)) fun v10_63 =>
  hIf v10_63 (fun _ => false) (fun _ => H28_j2 k  a0 v2_1 h1 nx1)
theorem sim28 {a0 : Value} {h : Heap} {nx : Nat} {k : KV} (H : H28 a0 h nx k = true) : ∃ v h' nx', k v h' nx' = true ∧ CallSim Tryz.prog 28 [a0] h nx v h' nx' := by
  refine fn_rule Tryz.func28 rfl rfl ?_
  refine CJ.seq ?_
  refine CJ.region ?_
  refine OJ.fu rfl rfl rfl (r_alloc1 rfl H) ?_
  intro v2_1 h1 nx1 H
  refine OJ.mv rfl rfl rfl (r_assign rfl rfl) ?_
  refine OJ.fin ?_
  refine CJ.seq (CJ.cut (X := Value × Value × Unit) (fun x h nx => H28_j2 k  x.1 x.2.1 h nx) (fun x => [(0, some x.1), (2, some x.2.1)]) ?_ ?_)
  · refine CJ.seq ?_
    refine CJ.region ?_
    refine OJ.mv rfl rfl rfl (r_move rfl rfl) ?_
    refine OJ.rd rfl rfl rfl (r_len (x := default) rfl rfl (And.intro rfl True.intro) rfl H) ?_
    intro v9_62 H
    refine OJ.rd rfl rfl rfl (r_bin rfl rfl rfl H) ?_
    intro v10_63 H
    refine OJ.fin ?_
    refine CJ.ite rfl H (fun H => ?_) (fun H => ?_)
    · cases H
    · exact CJ.skip [(0, (some a0)), (2, (some v2_1))] (And.intro rfl (And.intro rfl True.intro)) (Exists.intro (a0, v2_1, ()) (And.intro rfl H))
  · intro ⟨a0_3, a2_3, _u⟩ h nx H
    refine CJ.seq (CJ.cut (X := Value × Value × Unit) (fun x h nx => H28_j4 k  x.1 x.2.1 h nx) (fun x => [(0, some x.1), (2, some x.2.1)]) ?_ ?_)
    · refine CJ.seq ?_
      refine CJ.region ?_
      refine OJ.mv rfl rfl rfl (r_move rfl rfl) ?_
      refine OJ.rd rfl rfl rfl (r_len (x := default) rfl rfl (And.intro rfl True.intro) rfl H) ?_
      intro v13_60 H
      refine OJ.rd rfl rfl rfl (r_bin rfl rfl rfl H) ?_
      intro v14_61 H
      refine OJ.fin ?_
      refine CJ.ite rfl H (fun H => ?_) (fun H => ?_)
      · cases H
      · exact CJ.skip [(0, (some a0_3)), (2, (some a2_3))] (And.intro rfl (And.intro rfl True.intro)) (Exists.intro (a0_3, a2_3, ()) (And.intro rfl H))
    · intro ⟨a0_5, a2_5, _u⟩ h nx H
      refine CJ.seq ?_
      refine CJ.region ?_
      refine OJ.mv rfl rfl rfl (r_move rfl rfl) ?_
      refine OJ.fu rfl rfl rfl (r_call (args := [a0_5]) rfl rfl rfl (And.intro rfl True.intro) Tryz.call54 (sim54 H)) ?_
      intro v18_6 h6 nx6 H
      refine OJ.mv rfl rfl rfl (r_move rfl rfl) ?_
      refine OJ.rd rfl rfl rfl (r_extract rfl rfl H) ?_
      intro v19_7 H
      refine OJ.rd rfl rfl rfl (r_extract rfl rfl H) ?_
      intro v20_8 H
      refine OJ.mv rfl rfl rfl (r_assign rfl rfl) ?_
      refine OJ.mv rfl rfl rfl (r_assign rfl rfl) ?_
      refine OJ.fin ?_
      refine CJ.seq (CJ.cut (X := Value × Value × Value × Unit) (fun x h nx => H28_j9 k  x.1 x.2.1 x.2.2.1 h nx) (fun x => [(0, some x.1), (2, some x.2.1), (4, some x.2.2.1)]) ?_ ?_)
      · refine CJ.seq ?_
        refine CJ.region ?_
        refine OJ.mv rfl rfl rfl (r_move rfl rfl) ?_
        refine OJ.rd rfl rfl rfl (r_un rfl rfl H) ?_
        intro v22_59 H
        refine OJ.fin ?_
        refine CJ.ite rfl H (fun H => ?_) (fun H => ?_)
        · cases H
        · exact CJ.skip [(0, (some a0_5)), (2, (some a2_5)), (4, (some v19_7))] (And.intro rfl (And.intro rfl (And.intro rfl True.intro))) (Exists.intro (a0_5, a2_5, v19_7, ()) (And.intro rfl H))
      · intro ⟨a0_10, a2_10, a4_10, _u⟩ h nx H
        refine CJ.seq ?_
        refine CJ.region ?_
        refine OJ.mv rfl rfl rfl (r_move rfl rfl) ?_
        refine OJ.rd rfl rfl rfl (r_build (vs := [(0, a4_10)]) rfl (And.intro rfl (And.intro rfl True.intro)) H) ?_
        intro v25_11 H
        refine OJ.fu rfl rfl rfl (r_box rfl rfl H) ?_
        intro v26_12 h12 nx12 H
        refine OJ.mv rfl rfl rfl (r_assign rfl rfl) ?_
        refine OJ.fin ?_
        refine CJ.seq ?_
        refine CJ.region ?_
        refine OJ.mv rfl rfl rfl (r_move rfl rfl) ?_
        refine OJ.fu rfl rfl rfl (r_call (args := [v26_12, (.int .i64 (.ofNat 2))]) rfl rfl rfl (And.intro rfl (And.intro rfl True.intro)) Tryz.call55 (sim55 H)) ?_
        intro v28_13 h13 nx13 H
        refine OJ.fin ?_
        refine CJ.seq ?_
        refine CJ.region ?_
        refine OJ.mv rfl rfl rfl (r_move rfl rfl) ?_
        refine OJ.fu rfl rfl rfl (r_call (args := [v26_12, (.int .i64 (.ofNat 1))]) rfl rfl rfl (And.intro rfl (And.intro rfl True.intro)) Tryz.call55 (sim55 H)) ?_
        intro v30_14 h14 nx14 H
        refine OJ.rd rfl rfl rfl (r_build (vs := [(0, v30_14)]) rfl (And.intro rfl (And.intro rfl True.intro)) H) ?_
        intro v31_15 H
        refine OJ.fu rfl rfl rfl (r_alloc1 rfl H) ?_
        intro v7_16 h16 nx16 H
        refine OJ.wr rfl rfl (r_store rfl rfl rfl H) ?_
        intro h17 H
        refine OJ.fin ?_
        refine CJ.seq ?_
        refine CJ.region ?_
        refine OJ.mv rfl rfl rfl (r_move rfl rfl) ?_
        refine OJ.fu rfl rfl rfl (r_call (args := [v26_12, (.int .i64 (.ofNat 4))]) rfl rfl rfl (And.intro rfl (And.intro rfl True.intro)) Tryz.call55 (sim55 H)) ?_
        intro v33_18 h18 nx18 H
        refine OJ.rd rfl rfl rfl (r_fieldAddr rfl rfl H) ?_
        intro v34_19 H
        refine OJ.wr rfl rfl (r_store rfl rfl rfl H) ?_
        intro h20 H
        refine OJ.fin ?_
        refine CJ.seq ?_
        refine CJ.region ?_
        refine OJ.mv rfl rfl rfl (r_move rfl rfl) ?_
        refine OJ.fu rfl rfl rfl (r_call (args := [v26_12, (.int .i64 (.ofNat 4))]) rfl rfl rfl (And.intro rfl (And.intro rfl True.intro)) Tryz.call55 (sim55 H)) ?_
        intro v36_21 h21 nx21 H
        refine OJ.rd rfl rfl rfl (r_fieldAddr rfl rfl H) ?_
        intro v37_22 H
        refine OJ.wr rfl rfl (r_store rfl rfl rfl H) ?_
        intro h23 H
        refine OJ.fin ?_
        refine CJ.seq ?_
        refine CJ.region ?_
        refine OJ.mv rfl rfl rfl (r_move rfl rfl) ?_
        refine OJ.fu rfl rfl rfl (r_call (args := [v26_12, (.int .i64 (.ofNat 4))]) rfl rfl rfl (And.intro rfl (And.intro rfl True.intro)) Tryz.call55 (sim55 H)) ?_
        intro v39_24 h24 nx24 H
        refine OJ.rd rfl rfl rfl (r_fieldAddr rfl rfl H) ?_
        intro v40_25 H
        refine OJ.wr rfl rfl (r_store rfl rfl rfl H) ?_
        intro h26 H
        refine OJ.fin ?_
        refine CJ.seq ?_
        refine CJ.region ?_
        refine OJ.mv rfl rfl rfl (r_move rfl rfl) ?_
        refine OJ.rd rfl rfl rfl (r_nil rfl rfl H) ?_
        intro v42_27 H
        refine OJ.rd rfl rfl rfl (r_fieldAddr rfl rfl H) ?_
        intro v43_28 H
        refine OJ.rd rfl rfl rfl (r_load rfl rfl H) ?_
        intro v44_29 H
        refine OJ.rd rfl rfl rfl (r_fieldAddr rfl rfl H) ?_
        intro v45_30 H
        refine OJ.wr rfl rfl (r_store rfl rfl rfl H) ?_
        intro h31 H
        refine OJ.fin ?_
        refine CJ.seq (CJ.cut (X := Value × Value × Unit) (fun x h nx => H28_j32 k  x.1 x.2.1 h nx) (fun x => [(2, some x.1), (7, some x.2.1)]) ?_ ?_)
        · refine CJ.seq (CJ.cut (X := Value × Value × Value × Unit) (fun x h nx => H28_j38 k  x.1 x.2.1 x.2.2.1 h nx) (fun x => [(2, some x.1), (7, some x.2.1), (63, some x.2.2.1)]) ?_ ?_)
          · refine DJ.hm [0, 1, 3, 7, 15, 31, 63, 127, 255, 511, 1023, 2047, 4095, 8191, 2047, 18431, 65535, 131071] (by decide +kernel) ?_
            intro hm40
            refine DJ.mv 0 [(6, (some v26_12))] (a_move rfl rfl) ?_
            intro S40_0
            refine DJ.any 1 [(46, (some v26_12))] (a_nil rfl rfl H) ?_
            intro v47_41 H S40_1
            refine DJ.any 2 [(47, (some v47_41))] (a_fieldAddr rfl rfl H) ?_
            intro v48_42 H S40_2
            refine DJ.rd 3 [(48, (some v48_42))] h31 nx24 (r_load rfl rfl H) ?_
            intro v49_43 H S40_3
            refine DJ.any 4 [(49, (some v49_43))] (a_bin rfl rfl rfl H) ?_
            intro v50_44 H S40_4
            refine DJ.mv 5 [(50, (some v50_44))] (a_move rfl rfl) ?_
            intro S40_5
            rcases hG_true H with ⟨g45, H⟩ | ⟨g45, H⟩
            · refine DJ.rd 6 [(7, (some v7_16)), (51, (some v50_44))] h31 nx24 (r_load rfl rfl H) ?_
              intro v52_46 H S40_6
              refine DJ.fu 7 [(51, (some v50_44)), (52, (some v52_46))] h31 nx24 (r_call (args := [v52_46]) rfl rfl rfl (And.intro rfl True.intro) Tryz.call56 (sim56 H)) ?_
              intro v53_47 h47 nx47 H S40_7
              have I40_7 := S40_7.1
              refine DJ.any 8 [(51, (some v50_44)), (53, (some v53_47))] (a_un rfl rfl H) ?_
              intro v54_48 H S40_8
              refine DJ.any 9 [(51, (some v50_44)), (54, (some v54_48))] (a_pick rfl rfl rfl rfl H) ?_
              intro v55_49 H S40_9
              refine DJ.mv 10 [(55, (some v55_49))] (a_move rfl rfl) ?_
              intro S40_10
              rcases hG_true H with ⟨g50, H⟩ | ⟨g50, H⟩
              · refine DJ.rd 11 [(7, (some v7_16)), (56, (some v55_49))] h47 nx47 (r_load rfl rfl H) ?_
                intro v57_51 H S40_11
                refine DJ.mv 14 [(0, (some a0_10)), (56, (some v55_49))] (a_move rfl rfl) ?_
                intro S40_14
                refine DJ.rd 15 [(56, (some v55_49)), (60, (some a0_10))] h47 nx47 (r_conv rfl rfl H) ?_
                intro v61_52 H S40_15
                refine DJ.fu 12 [(56, (some v55_49)), (57, (some v57_51))] h47 nx47 (r_call (args := [v57_51]) rfl rfl rfl (And.intro rfl True.intro) Tryz.call57 (sim57 H)) ?_
                intro v58_53 h53 nx53 H S40_12
                have I40_12 := S40_12.1
                refine DJ.rd 13 [(56, (some v55_49)), (58, (some v58_53))] h53 nx53 (r_conv rfl rfl H) ?_
                intro v59_54 H S40_13
                refine DJ.any 16 [(56, (some v55_49)), (59, (some v59_54)), (61, (some v61_52))] (a_bin rfl rfl rfl H) ?_
                intro v62_55 H S40_16
                refine DJ.any 17 [(56, (some v55_49)), (62, (some v62_55))] (a_pick rfl rfl rfl rfl H) ?_
                intro v63_56 H S40_17
                refine DJ.rd 15 [(56, (some v55_49)), (60, (some a0_10))] h53 nx53 (r_conv rfl rfl H) ?_
                intro v61_58 H Q57
                obtain ⟨q57, H⟩ := hEq_true H
                exact CJ.draw1 [(some v26_12), (some v47_41), (some v48_42), (some v49_43), (some v50_44), (some v50_44), (some v52_46), (some v53_47), (some v54_48), (some v55_49), (some v55_49), (some v57_51), (some v58_53), (some v59_54), (some a0_10), (some v61_52), (some v62_55), (some v63_56)] [7, 12] [(h31, nx24), (h47, nx47), (h53, nx53)] [] [0, 1, 2, 3, 4, 5, 6, 7, 8, 9, 10, 11, 12, 13, 14, 15, 16, 17] [0, 1, 2, 3, 4, 5, 6, 7, 8, 9, 10, 11, 12, 13, 14, 15, 16, 17] [0, 1, 2, 3, 4, 5, 6, 7, 8, 9, 10, 11, 12, 13, 14, 15, 16, 17] (by decide +kernel) (And.intro (F_any (Ti := [(6, (some v26_12))]) hm40 [(6, none)] (by decide +kernel) (And.intro rfl (And.intro rfl True.intro)) (guard_no rfl) rfl rfl S40_0) (And.intro (F_any (Ti := [(46, (some v26_12))]) hm40 [(46, some 0)] (by decide +kernel) (And.intro rfl (And.intro rfl True.intro)) (guard_no rfl) rfl rfl S40_1) (And.intro (F_any (Ti := [(47, (some v47_41))]) hm40 [(47, some 1)] (by decide +kernel) (And.intro rfl (And.intro rfl True.intro)) (guard_no rfl) rfl rfl S40_2) (And.intro (F_read (Ti := [(48, (some v48_42))]) hm40 [(48, some 2)] (by decide +kernel) (And.intro rfl (And.intro rfl True.intro)) (guard_no rfl) rfl rfl 0 1 (by decide +kernel) (And.intro S40_3 True.intro)) (And.intro (F_any (Ti := [(49, (some v49_43))]) hm40 [(49, some 3)] (by decide +kernel) (And.intro rfl (And.intro rfl True.intro)) (guard_no rfl) rfl rfl S40_4) (And.intro (F_any (Ti := [(50, (some v50_44))]) hm40 [(50, some 4)] (by decide +kernel) (And.intro rfl (And.intro rfl True.intro)) (guard_no rfl) rfl rfl S40_5) (And.intro (F_read (Ti := [(7, (some v7_16)), (51, (some v50_44))]) hm40 [(7, none), (51, some 5)] (by decide +kernel) (And.intro rfl (And.intro rfl (And.intro rfl (And.intro rfl True.intro)))) (guard_in rfl rfl rfl g45) rfl rfl 0 1 (by decide +kernel) (And.intro S40_6 True.intro)) (And.intro (F_eff (Ti := [(51, (some v50_44)), (52, (some v52_46))]) hm40 [(51, some 5), (52, some 6)] (by decide +kernel) (And.intro rfl (And.intro rfl (And.intro rfl (And.intro rfl True.intro)))) (guard_in rfl rfl rfl g45) rfl 0 rfl (by decide +kernel) S40_7 (Grow.refl _ _) (show nx24 ≤ nx24 by omega) True.intro) (And.intro (F_any (Ti := [(51, (some v50_44)), (53, (some v53_47))]) hm40 [(51, some 5), (53, some 7)] (by decide +kernel) (And.intro rfl (And.intro rfl (And.intro rfl (And.intro rfl True.intro)))) (guard_in rfl rfl rfl g45) rfl rfl S40_8) (And.intro (F_any (Ti := [(51, (some v50_44)), (54, (some v54_48))]) hm40 [(51, some 5), (54, some 8)] (by decide +kernel) (And.intro rfl (And.intro rfl (And.intro rfl (And.intro rfl True.intro)))) (guard_no rfl) rfl rfl S40_9) (And.intro (F_any (Ti := [(55, (some v55_49))]) hm40 [(55, some 9)] (by decide +kernel) (And.intro rfl (And.intro rfl True.intro)) (guard_no rfl) rfl rfl S40_10) (And.intro (F_read (Ti := [(7, (some v7_16)), (56, (some v55_49))]) hm40 [(7, none), (56, some 10)] (by decide +kernel) (And.intro rfl (And.intro rfl (And.intro rfl (And.intro rfl True.intro)))) (guard_in rfl rfl rfl g50) rfl rfl 1 1 (by decide +kernel) (And.intro S40_11 True.intro)) (And.intro (F_eff (Ti := [(56, (some v55_49)), (57, (some v57_51))]) hm40 [(56, some 10), (57, some 11)] (by decide +kernel) (And.intro rfl (And.intro rfl (And.intro rfl (And.intro rfl True.intro)))) (guard_in rfl rfl rfl g50) rfl 1 rfl (by decide +kernel) S40_12 (Grow.refl _ _) (show nx24 ≤ nx47 by omega) True.intro) (And.intro (F_read (Ti := [(56, (some v55_49)), (58, (some v58_53))]) hm40 [(56, some 10), (58, some 12)] (by decide +kernel) (And.intro rfl (And.intro rfl (And.intro rfl (And.intro rfl True.intro)))) (guard_in rfl rfl rfl g50) rfl rfl 2 1 (by decide +kernel) (And.intro S40_13 True.intro)) (And.intro (F_any (Ti := [(0, (some a0_10)), (56, (some v55_49))]) hm40 [(0, none), (56, some 10)] (by decide +kernel) (And.intro rfl (And.intro rfl (And.intro rfl (And.intro rfl True.intro)))) (guard_in rfl rfl rfl g50) rfl rfl S40_14) (And.intro (F_read (Ti := [(56, (some v55_49)), (60, (some a0_10))]) hm40 [(56, some 10), (60, some 14)] (by decide +kernel) (And.intro rfl (And.intro rfl (And.intro rfl (And.intro rfl True.intro)))) (guard_in rfl rfl rfl g50) rfl rfl 1 2 (by decide +kernel) (And.intro S40_15 (And.intro (opR_eq q57 Q57) True.intro))) (And.intro (F_any (Ti := [(56, (some v55_49)), (59, (some v59_54)), (61, (some v61_52))]) hm40 [(56, some 10), (59, some 13), (61, some 15)] (by decide +kernel) (And.intro rfl (And.intro rfl (And.intro rfl (And.intro rfl (And.intro rfl (And.intro rfl True.intro)))))) (guard_in rfl rfl rfl g50) rfl rfl S40_16) (And.intro (F_any (Ti := [(56, (some v55_49)), (62, (some v62_55))]) hm40 [(56, some 10), (62, some 16)] (by decide +kernel) (And.intro rfl (And.intro rfl (And.intro rfl (And.intro rfl True.intro)))) (guard_no rfl) rfl rfl S40_17) True.intro)))))))))))))))))) rfl (And.intro (by omega) (And.intro (by omega) (And.intro (by omega) True.intro))) True.intro (Grow.refl _ _) [(2, none), (7, none), (63, some 17)] [(2, (some a2_10)), (7, (some v7_16)), (63, (some v63_56))] (by decide +kernel) (And.intro rfl (And.intro rfl (And.intro rfl (And.intro rfl (And.intro rfl (And.intro rfl True.intro)))))) rfl (Exists.intro (a2_10, v7_16, v63_56, ()) (And.intro rfl H))
              · cases H
            · cases H
          · intro ⟨a2_39, a7_39, a63_39, _u⟩ h nx H
            refine CJ.ite rfl H (fun H => ?_) (fun H => ?_)
            · cases H
            · exact CJ.skip [(2, (some a2_39)), (7, (some a7_39))] (And.intro rfl (And.intro rfl True.intro)) (Exists.intro (a2_39, a7_39, ()) (And.intro rfl H))
        · intro ⟨a2_33, a7_33, _u⟩ h nx H
          refine CJ.seq ?_
          refine CJ.region ?_
          refine OJ.rd rfl rfl rfl (r_load rfl rfl H) ?_
          intro v65_34 H
          refine OJ.wr rfl rfl (r_store rfl rfl rfl H) ?_
          intro h35 H
          refine OJ.mv rfl rfl rfl (r_assign rfl rfl) ?_
          refine OJ.fin ?_
          refine CJ.ret1 ?_
          obtain ⟨r36, H, l36⟩ := load_val H
          obtain ⟨n37, H⟩ := hNT_true H
          exact ret_gen (vs := [r36, (.int .i64 (.ofNat 0))]) (Or.inr rfl) (And.intro (Exists.intro a2_33 (And.intro rfl l36)) (And.intro rfl (And.intro n37 True.intro))) H

/-! 10 -/
noncomputable def H10_g25 (k : KV)  (v61_24 : Value) (o63_26 : Option Value) (o64_26 : Option Value) (o65_26 : Option Value) (h : Heap) (nx : Nat) : Bool :=
  hPick v61_24 o65_26 (some (.bool false)) fun v66_27 =>
  k v66_27 h nx
noncomputable def H10_g22 (k : KV)  (v6_19 : Value) (v56_21 : Value) (o58_23 : Option Value) (o59_23 : Option Value) (o60_23 : Option Value) (h : Heap) (nx : Nat) : Bool :=
  hPick v56_21 o60_23 (some (.bool false)) fun v61_24 =>
  hG (some v61_24) true (fun _ => hFieldAddr Tryz.prog 24 v6_19 1 fun v63_28 =>
  loadK Tryz.prog 3 v63_28 h fun v64_29 =>
  binK Tryz.prog .eql 3 (.tmp 64) (.const (.int .i64 (.ofNat 1))) v64_29 (.int .i64 (.ofNat 1)) fun v65_30 =>
  H10_g25 k  v61_24 (some v63_28) (some v64_29) (some v65_30) h nx) (fun _ => H10_g25 k  v61_24 none none none h nx)
noncomputable def H10_j11 (k : KV)  (a5_12 : Value) (h : Heap) (nx : Nat) : Bool :=
  hIndexAddr Tryz.prog 41 a5_12 (.int .i64 (.ofNat 0)) fun v49_13 =>
  hFieldAddr Tryz.prog 96 v49_13 2 fun v50_14 =>
  loadK Tryz.prog 22 v50_14 h fun v51_15 =>
  H28 v51_15 h nx fun v52_16 h16 nx16 =>
  hExtract v52_16 0 fun v53_17 =>
  hExtract v52_16 1 fun v54_18 =>
  hAlloc Tryz.prog 24 h16 nx16 fun v6_19 h19 nx19 =>
  storeK Tryz.prog 24 v6_19 v53_17 h19 fun h20 =>
  binK Tryz.prog .eql 44 (.tmp 55) (.const (.int .i64 (.ofNat 0))) v54_18 (.int .i64 (.ofNat 0)) fun v56_21 =>
  hG (some v56_21) true (fun _ => hFieldAddr Tryz.prog 24 v6_19 0 fun v58_31 =>
  loadK Tryz.prog 3 v58_31 h20 fun v59_32 =>
  binK Tryz.prog .eql 3 (.tmp 59) (.const (.int .i64 (.ofNat 1))) v59_32 (.int .i64 (.ofNat 1)) fun v60_33 =>
  H10_g22 k  v6_19 v56_21 (some v58_31) (some v59_32) (some v60_33) h20 nx19) (fun _ => H10_g22 k  v6_19 v56_21 none none none h20 nx19)
noncomputable def H10_g41 (k : KV)  (v25_10 : Value) (v39_40 : Value) (o41_42 : Option Value) (o42_42 : Option Value) (o43_42 : Option Value) (o44_42 : Option Value) (o45_42 : Option Value) (h : Heap) (nx : Nat) : Bool :=
  hPick v39_40 (some (.bool true)) o45_42 fun v46_43 =>
  hIf v46_43 (fun _ => false) (fun _ => H10_j11 k  v25_10 h nx)
noncomputable def H10_g38 (k : KV)  (v25_10 : Value) (v32_37 : Value) (o34_39 : Option Value) (o35_39 : Option Value) (o36_39 : Option Value) (o37_39 : Option Value) (o38_39 : Option Value) (h : Heap) (nx : Nat) : Bool :=
  hPick v32_37 (some (.bool true)) o38_39 fun v39_40 =>
  hG (some v39_40) false (fun _ => hIndexAddr Tryz.prog 41 v25_10 (.int .i64 (.ofNat 0)) fun v42_44 =>
  hFieldAddr Tryz.prog 96 v42_44 1 fun v43_45 =>
  loadK Tryz.prog 3 v43_45 h fun v44_46 =>
  binK Tryz.prog .neq 3 (.tmp 44) (.const (.int .i64 (.ofNat 2))) v44_46 (.int .i64 (.ofNat 2)) fun v45_47 =>
  H10_g41 k  v25_10 v39_40 (some v25_10) (some v42_44) (some v43_45) (some v44_46) (some v45_47) h nx) (fun _ => H10_g41 k  v25_10 v39_40 none none none none none h nx)
noncomputable def H10_g35 (k : KV)  (v25_10 : Value) (v27_34 : Value) (o29_36 : Option Value) (o30_36 : Option Value) (o31_36 : Option Value) (h : Heap) (nx : Nat) : Bool :=
  hPick v27_34 (some (.bool true)) o31_36 fun v32_37 =>
  hG (some v32_37) false (fun _ => hIndexAddr Tryz.prog 41 v25_10 (.int .i64 (.ofNat 0)) fun v35_48 =>
  hFieldAddr Tryz.prog 96 v35_48 0 fun v36_49 =>
  loadK Tryz.prog 3 v36_49 h fun v37_50 =>
  binK Tryz.prog .neq 3 (.tmp 37) (.const (.int .i64 (.ofNat 1))) v37_50 (.int .i64 (.ofNat 1)) fun v38_51 =>
  H10_g38 k  v25_10 v32_37 (some v25_10) (some v35_48) (some v36_49) (some v37_50) (some v38_51) h nx) (fun _ => H10_g38 k  v25_10 v32_37 none none none none none h nx)
noncomputable def H10_j5 (k : KV)  (a1_6 : Value) (h : Heap) (nx : Nat) : Bool :=
  H4 a1_6 (.int .i64 (.ofNat 2)) (.int .i64 (.ofNat 5)) h nx fun v21_7 h7 nx7 =>
  hExtract v21_7 0 fun v22_8 =>
  hExtract v21_7 1 fun v23_9 =>
  H7 a1_6 h7 nx7 fun v25_10 h10 nx10 =>
  binK Tryz.prog .neq 44 (.tmp 26) (.const (.int .i64 (.ofNat 0))) v23_9 (.int .i64 (.ofNat 0)) fun v27_34 =>
  hG (some v27_34) false (fun _ => lenK Tryz.prog 41 v25_10 h10 fun v30_52 =>
  binK Tryz.prog .neq 3 (.tmp 30) (.const (.int .i64 (.ofNat 1))) v30_52 (.int .i64 (.ofNat 1)) fun v31_53 =>
  H10_g35 k  v25_10 v27_34 (some v25_10) (some v30_52) (some v31_53) h10 nx10) (fun _ => H10_g35 k  v25_10 v27_34 none none none h10 nx10)
noncomputable def H10_g55 (k : KV)  (v11_3 : Value) (v14_54 : Value) (o16_56 : Option Value) (o17_56 : Option Value) (h : Heap) (nx : Nat) : Bool :=
  hPick v14_54 (some (.bool true)) o17_56 fun v18_57 =>
  hIf v18_57 (fun _ => false) (fun _ => H10_j5 k  v11_3 h nx)
noncomputable def H10  (h : Heap) (nx : Nat) (k : KV) : Bool :=
  H27  h nx fun v9_1 h1 nx1 =>
  H26 (.int .i64 (.ofNat 1)) v9_1 h1 nx1 fun v10_2 h2 nx2 =>
  hExtract v10_2 0 fun v11_3 =>
  hExtract v10_2 1 fun v12_4 =>
  binK Tryz.prog .neq 44 (.tmp 13) (.const (.int .i64 (.ofNat 0))) v12_4 (.int .i64 (.ofNat 0)) fun v14_54 =>
  hG (some v14_54) false (fun _ => binK Tryz.prog .eql 27 (.tmp 16) (.const (.pointer none)) v11_3 (.pointer none) fun v17_58 =>
  H10_g55 k  v11_3 v14_54 (some v11_3) (some v17_58) h2 nx2) (fun _ => H10_g55 k  v11_3 v14_54 none none h2 nx2)
theorem sim10 {h : Heap} {nx : Nat} {k : KV} (H : H10  h nx k = true) : ∃ v h' nx', k v h' nx' = true ∧ CallSim Tryz.prog 10 [] h nx v h' nx' := by
  refine fn_rule Tryz.func10 rfl rfl ?_
  refine CJ.seq ?_
  refine CJ.region ?_
  refine OJ.mv rfl rfl rfl (r_assign rfl rfl) ?_
  refine OJ.fin ?_
  refine CJ.seq ?_
  refine CJ.region ?_
  refine OJ.fu rfl rfl rfl (r_call (args := []) rfl rfl rfl True.intro Tryz.call27 (sim27 H)) ?_
  intro v9_1 h1 nx1 H
  refine OJ.fu rfl rfl rfl (r_call (args := [(.int .i64 (.ofNat 1)), v9_1]) rfl rfl rfl (And.intro rfl (And.intro rfl True.intro)) Tryz.call26 (sim26 H)) ?_
  intro v10_2 h2 nx2 H
  refine OJ.mv rfl rfl rfl (r_move rfl rfl) ?_
  refine OJ.rd rfl rfl rfl (r_extract rfl rfl H) ?_
  intro v11_3 H
  refine OJ.rd rfl rfl rfl (r_extract rfl rfl H) ?_
  intro v12_4 H
  refine OJ.mv rfl rfl rfl (r_assign rfl rfl) ?_
  refine OJ.mv rfl rfl rfl (r_assign rfl rfl) ?_
  refine OJ.fin ?_
  refine CJ.seq (CJ.cut (X := Value × Unit) (fun x h nx => H10_j5 k  x.1 h nx) (fun x => [(1, some x.1)]) ?_ ?_)
  · refine CJ.seq ?_
    refine CJ.region ?_
    refine OJ.mv rfl rfl rfl (r_move rfl rfl) ?_
    refine OJ.rd rfl rfl rfl (r_bin rfl rfl rfl H) ?_
    intro v14_54 H
    refine OJ.mv rfl rfl rfl (r_move rfl rfl) ?_
    refine OJ.cut (X := Option Value × Option Value × Unit) 2 (fun x h nx => H10_g55 k  v11_3 v14_54 x.1 x.2.1 h nx) (fun x => [(16, x.1), (17, x.2.1), (1, (some v11_3)), (15, (some v14_54))]) ?_ (fun next => ?_)
    · intro ⟨o16_56, o17_56, _u⟩ h nx H
      refine OJ.rd rfl rfl rfl (r_pick rfl rfl rfl rfl H) ?_
      intro v18_57 H
      refine OJ.fin ?_
      refine CJ.ite rfl H (fun H => ?_) (fun H => ?_)
      · cases H
      · exact CJ.skip [(1, (some v11_3))] (And.intro rfl True.intro) (Exists.intro (v11_3, ()) (And.intro rfl H))
    · rcases hG_true H with ⟨g, H⟩ | ⟨g, H⟩
      · refine OJ.gmv rfl rfl rfl g rfl rfl (r_move rfl rfl) ?_
        refine OJ.grd rfl rfl rfl g rfl rfl (r_bin rfl rfl rfl H) ?_
        intro v17_58 H
        exact OJ.weaken [(16, (some v11_3)), (17, (some v17_58)), (1, (some v11_3)), (15, (some v14_54))] (And.intro rfl (And.intro rfl (And.intro rfl (And.intro rfl True.intro)))) (next ((some v11_3), (some v17_58), ()) _ _ H)
      · refine OJ.no rfl rfl rfl g rfl rfl ?_
        refine OJ.no rfl rfl rfl g rfl rfl ?_
        exact OJ.weaken [(16, none), (17, none), (1, (some v11_3)), (15, (some v14_54))] (And.intro rfl (And.intro rfl (And.intro rfl (And.intro rfl True.intro)))) (next (none, none, ()) _ _ H)
  · intro ⟨a1_6, _u⟩ h nx H
    refine CJ.seq ?_
    refine CJ.region ?_
    refine OJ.mv rfl rfl rfl (r_move rfl rfl) ?_
    refine OJ.fu rfl rfl rfl (r_call (args := [a1_6, (.int .i64 (.ofNat 2)), (.int .i64 (.ofNat 5))]) rfl rfl rfl (And.intro rfl (And.intro rfl (And.intro rfl True.intro))) Tryz.call4 (sim4 H)) ?_
    intro v21_7 h7 nx7 H
    refine OJ.mv rfl rfl rfl (r_move rfl rfl) ?_
    refine OJ.rd rfl rfl rfl (r_extract rfl rfl H) ?_
    intro v22_8 H
    refine OJ.rd rfl rfl rfl (r_extract rfl rfl H) ?_
    intro v23_9 H
    refine OJ.mv rfl rfl rfl (r_assign rfl rfl) ?_
    refine OJ.mv rfl rfl rfl (r_assign rfl rfl) ?_
    refine OJ.fin ?_
    refine CJ.seq ?_
    refine CJ.region ?_
    refine OJ.mv rfl rfl rfl (r_move rfl rfl) ?_
    refine OJ.fu rfl rfl rfl (r_call (args := [a1_6]) rfl rfl rfl (And.intro rfl True.intro) Tryz.call7 (sim7 H)) ?_
    intro v25_10 h10 nx10 H
    refine OJ.mv rfl rfl rfl (r_assign rfl rfl) ?_
    refine OJ.fin ?_
    refine CJ.seq (CJ.cut (X := Value × Unit) (fun x h nx => H10_j11 k  x.1 h nx) (fun x => [(5, some x.1)]) ?_ ?_)
    · refine CJ.seq ?_
      refine CJ.region ?_
      refine OJ.mv rfl rfl rfl (r_move rfl rfl) ?_
      refine OJ.rd rfl rfl rfl (r_bin rfl rfl rfl H) ?_
      intro v27_34 H
      refine OJ.mv rfl rfl rfl (r_move rfl rfl) ?_
      refine OJ.cut (X := Option Value × Option Value × Option Value × Unit) 3 (fun x h nx => H10_g35 k  v25_10 v27_34 x.1 x.2.1 x.2.2.1 h nx) (fun x => [(29, x.1), (30, x.2.1), (31, x.2.2.1), (5, (some v25_10)), (28, (some v27_34))]) ?_ (fun next => ?_)
      · intro ⟨o29_36, o30_36, o31_36, _u⟩ h nx H
        refine OJ.rd rfl rfl rfl (r_pick rfl rfl rfl rfl H) ?_
        intro v32_37 H
        refine OJ.mv rfl rfl rfl (r_move rfl rfl) ?_
        refine OJ.cut (X := Option Value × Option Value × Option Value × Option Value × Option Value × Unit) 5 (fun x h nx => H10_g38 k  v25_10 v32_37 x.1 x.2.1 x.2.2.1 x.2.2.2.1 x.2.2.2.2.1 h nx) (fun x => [(34, x.1), (35, x.2.1), (36, x.2.2.1), (37, x.2.2.2.1), (38, x.2.2.2.2.1), (5, (some v25_10)), (33, (some v32_37))]) ?_ (fun next => ?_)
        · intro ⟨o34_39, o35_39, o36_39, o37_39, o38_39, _u⟩ h nx H
          refine OJ.rd rfl rfl rfl (r_pick rfl rfl rfl rfl H) ?_
          intro v39_40 H
          refine OJ.mv rfl rfl rfl (r_move rfl rfl) ?_
          refine OJ.cut (X := Option Value × Option Value × Option Value × Option Value × Option Value × Unit) 5 (fun x h nx => H10_g41 k  v25_10 v39_40 x.1 x.2.1 x.2.2.1 x.2.2.2.1 x.2.2.2.2.1 h nx) (fun x => [(41, x.1), (42, x.2.1), (43, x.2.2.1), (44, x.2.2.2.1), (45, x.2.2.2.2.1), (5, (some v25_10)), (40, (some v39_40))]) ?_ (fun next => ?_)
          · intro ⟨o41_42, o42_42, o43_42, o44_42, o45_42, _u⟩ h nx H
            refine OJ.rd rfl rfl rfl (r_pick rfl rfl rfl rfl H) ?_
            intro v46_43 H
            refine OJ.fin ?_
            refine CJ.ite rfl H (fun H => ?_) (fun H => ?_)
            · cases H
            · exact CJ.skip [(5, (some v25_10))] (And.intro rfl True.intro) (Exists.intro (v25_10, ()) (And.intro rfl H))
          · rcases hG_true H with ⟨g, H⟩ | ⟨g, H⟩
            · refine OJ.gmv rfl rfl rfl g rfl rfl (r_move rfl rfl) ?_
              refine OJ.grd rfl rfl rfl g rfl rfl (r_indexAddr rfl rfl rfl H) ?_
              intro v42_44 H
              refine OJ.grd rfl rfl rfl g rfl rfl (r_fieldAddr rfl rfl H) ?_
              intro v43_45 H
              refine OJ.grd rfl rfl rfl g rfl rfl (r_load rfl rfl H) ?_
              intro v44_46 H
              refine OJ.grd rfl rfl rfl g rfl rfl (r_bin rfl rfl rfl H) ?_
              intro v45_47 H
              exact OJ.weaken [(41, (some v25_10)), (42, (some v42_44)), (43, (some v43_45)), (44, (some v44_46)), (45, (some v45_47)), (5, (some v25_10)), (40, (some v39_40))] (And.intro rfl (And.intro rfl (And.intro rfl (And.intro rfl (And.intro rfl (And.intro rfl (And.intro rfl True.intro))))))) (next ((some v25_10), (some v42_44), (some v43_45), (some v44_46), (some v45_47), ()) _ _ H)
            · refine OJ.no rfl rfl rfl g rfl rfl ?_
              refine OJ.no rfl rfl rfl g rfl rfl ?_
              refine OJ.no rfl rfl rfl g rfl rfl ?_
              refine OJ.no rfl rfl rfl g rfl rfl ?_
              refine OJ.no rfl rfl rfl g rfl rfl ?_
              exact OJ.weaken [(41, none), (42, none), (43, none), (44, none), (45, none), (5, (some v25_10)), (40, (some v39_40))] (And.intro rfl (And.intro rfl (And.intro rfl (And.intro rfl (And.intro rfl (And.intro rfl (And.intro rfl True.intro))))))) (next (none, none, none, none, none, ()) _ _ H)
        · rcases hG_true H with ⟨g, H⟩ | ⟨g, H⟩
          · refine OJ.gmv rfl rfl rfl g rfl rfl (r_move rfl rfl) ?_
            refine OJ.grd rfl rfl rfl g rfl rfl (r_indexAddr rfl rfl rfl H) ?_
            intro v35_48 H
            refine OJ.grd rfl rfl rfl g rfl rfl (r_fieldAddr rfl rfl H) ?_
            intro v36_49 H
            refine OJ.grd rfl rfl rfl g rfl rfl (r_load rfl rfl H) ?_
            intro v37_50 H
            refine OJ.grd rfl rfl rfl g rfl rfl (r_bin rfl rfl rfl H) ?_
            intro v38_51 H
            exact OJ.weaken [(34, (some v25_10)), (35, (some v35_48)), (36, (some v36_49)), (37, (some v37_50)), (38, (some v38_51)), (5, (some v25_10)), (33, (some v32_37))] (And.intro rfl (And.intro rfl (And.intro rfl (And.intro rfl (And.intro rfl (And.intro rfl (And.intro rfl True.intro))))))) (next ((some v25_10), (some v35_48), (some v36_49), (some v37_50), (some v38_51), ()) _ _ H)
          · refine OJ.no rfl rfl rfl g rfl rfl ?_
            refine OJ.no rfl rfl rfl g rfl rfl ?_
            refine OJ.no rfl rfl rfl g rfl rfl ?_
            refine OJ.no rfl rfl rfl g rfl rfl ?_
            refine OJ.no rfl rfl rfl g rfl rfl ?_
            exact OJ.weaken [(34, none), (35, none), (36, none), (37, none), (38, none), (5, (some v25_10)), (33, (some v32_37))] (And.intro rfl (And.intro rfl (And.intro rfl (And.intro rfl (And.intro rfl (And.intro rfl (And.intro rfl True.intro))))))) (next (none, none, none, none, none, ()) _ _ H)
      · rcases hG_true H with ⟨g, H⟩ | ⟨g, H⟩
        · refine OJ.gmv rfl rfl rfl g rfl rfl (r_move rfl rfl) ?_
          refine OJ.grd rfl rfl rfl g rfl rfl (r_len (x := default) rfl rfl (And.intro rfl True.intro) rfl H) ?_
          intro v30_52 H
          refine OJ.grd rfl rfl rfl g rfl rfl (r_bin rfl rfl rfl H) ?_
          intro v31_53 H
          exact OJ.weaken [(29, (some v25_10)), (30, (some v30_52)), (31, (some v31_53)), (5, (some v25_10)), (28, (some v27_34))] (And.intro rfl (And.intro rfl (And.intro rfl (And.intro rfl (And.intro rfl True.intro))))) (next ((some v25_10), (some v30_52), (some v31_53), ()) _ _ H)
        · refine OJ.no rfl rfl rfl g rfl rfl ?_
          refine OJ.no rfl rfl rfl g rfl rfl ?_
          refine OJ.no rfl rfl rfl g rfl rfl ?_
          exact OJ.weaken [(29, none), (30, none), (31, none), (5, (some v25_10)), (28, (some v27_34))] (And.intro rfl (And.intro rfl (And.intro rfl (And.intro rfl (And.intro rfl True.intro))))) (next (none, none, none, ()) _ _ H)
    · intro ⟨a5_12, _u⟩ h nx H
      refine CJ.seq ?_
      refine CJ.region ?_
      refine OJ.mv rfl rfl rfl (r_move rfl rfl) ?_
      refine OJ.rd rfl rfl rfl (r_indexAddr rfl rfl rfl H) ?_
      intro v49_13 H
      refine OJ.rd rfl rfl rfl (r_fieldAddr rfl rfl H) ?_
      intro v50_14 H
      refine OJ.rd rfl rfl rfl (r_load rfl rfl H) ?_
      intro v51_15 H
      refine OJ.fu rfl rfl rfl (r_call (args := [v51_15]) rfl rfl rfl (And.intro rfl True.intro) Tryz.call28 (sim28 H)) ?_
      intro v52_16 h16 nx16 H
      refine OJ.mv rfl rfl rfl (r_move rfl rfl) ?_
      refine OJ.rd rfl rfl rfl (r_extract rfl rfl H) ?_
      intro v53_17 H
      refine OJ.rd rfl rfl rfl (r_extract rfl rfl H) ?_
      intro v54_18 H
      refine OJ.fu rfl rfl rfl (r_alloc1 rfl H) ?_
      intro v6_19 h19 nx19 H
      refine OJ.wr rfl rfl (r_store rfl rfl rfl H) ?_
      intro h20 H
      refine OJ.mv rfl rfl rfl (r_assign rfl rfl) ?_
      refine OJ.fin ?_
      refine CJ.seq ?_
      refine CJ.region ?_
      refine OJ.mv rfl rfl rfl (r_move rfl rfl) ?_
      refine OJ.rd rfl rfl rfl (r_bin rfl rfl rfl H) ?_
      intro v56_21 H
      refine OJ.mv rfl rfl rfl (r_move rfl rfl) ?_
      refine OJ.cut (X := Option Value × Option Value × Option Value × Unit) 3 (fun x h nx => H10_g22 k  v6_19 v56_21 x.1 x.2.1 x.2.2.1 h nx) (fun x => [(58, x.1), (59, x.2.1), (60, x.2.2.1), (6, (some v6_19)), (57, (some v56_21))]) ?_ (fun next => ?_)
      · intro ⟨o58_23, o59_23, o60_23, _u⟩ h nx H
        refine OJ.rd rfl rfl rfl (r_pick rfl rfl rfl rfl H) ?_
        intro v61_24 H
        refine OJ.mv rfl rfl rfl (r_move rfl rfl) ?_
        refine OJ.cut (X := Option Value × Option Value × Option Value × Unit) 3 (fun x h nx => H10_g25 k  v61_24 x.1 x.2.1 x.2.2.1 h nx) (fun x => [(63, x.1), (64, x.2.1), (65, x.2.2.1), (62, (some v61_24))]) ?_ (fun next => ?_)
        · intro ⟨o63_26, o64_26, o65_26, _u⟩ h nx H
          refine OJ.rd rfl rfl rfl (r_pick rfl rfl rfl rfl H) ?_
          intro v66_27 H
          refine OJ.mv rfl rfl rfl (r_assign rfl rfl) ?_
          refine OJ.fin ?_
          refine CJ.ret1 ?_
          exact ret_one (Or.inr rfl) rfl rfl H
        · rcases hG_true H with ⟨g, H⟩ | ⟨g, H⟩
          · refine OJ.grd rfl rfl rfl g rfl rfl (r_fieldAddr rfl rfl H) ?_
            intro v63_28 H
            refine OJ.grd rfl rfl rfl g rfl rfl (r_load rfl rfl H) ?_
            intro v64_29 H
            refine OJ.grd rfl rfl rfl g rfl rfl (r_bin rfl rfl rfl H) ?_
            intro v65_30 H
            exact OJ.weaken [(63, (some v63_28)), (64, (some v64_29)), (65, (some v65_30)), (62, (some v61_24))] (And.intro rfl (And.intro rfl (And.intro rfl (And.intro rfl True.intro)))) (next ((some v63_28), (some v64_29), (some v65_30), ()) _ _ H)
          · refine OJ.no rfl rfl rfl g rfl rfl ?_
            refine OJ.no rfl rfl rfl g rfl rfl ?_
            refine OJ.no rfl rfl rfl g rfl rfl ?_
            exact OJ.weaken [(63, none), (64, none), (65, none), (62, (some v61_24))] (And.intro rfl (And.intro rfl (And.intro rfl (And.intro rfl True.intro)))) (next (none, none, none, ()) _ _ H)
      · rcases hG_true H with ⟨g, H⟩ | ⟨g, H⟩
        · refine OJ.grd rfl rfl rfl g rfl rfl (r_fieldAddr rfl rfl H) ?_
          intro v58_31 H
          refine OJ.grd rfl rfl rfl g rfl rfl (r_load rfl rfl H) ?_
          intro v59_32 H
          refine OJ.grd rfl rfl rfl g rfl rfl (r_bin rfl rfl rfl H) ?_
          intro v60_33 H
          exact OJ.weaken [(58, (some v58_31)), (59, (some v59_32)), (60, (some v60_33)), (6, (some v6_19)), (57, (some v56_21))] (And.intro rfl (And.intro rfl (And.intro rfl (And.intro rfl (And.intro rfl True.intro))))) (next ((some v58_31), (some v59_32), (some v60_33), ()) _ _ H)
        · refine OJ.no rfl rfl rfl g rfl rfl ?_
          refine OJ.no rfl rfl rfl g rfl rfl ?_
          refine OJ.no rfl rfl rfl g rfl rfl ?_
          exact OJ.weaken [(58, none), (59, none), (60, none), (6, (some v6_19)), (57, (some v56_21))] (And.intro rfl (And.intro rfl (And.intro rfl (And.intro rfl (And.intro rfl True.intro))))) (next (none, none, none, ()) _ _ H)

/-! 3 -/
noncomputable def H3_j2 (k : KV)   (h : Heap) (nx : Nat) : Bool :=
  H10  h nx fun v71_4 h4 nx4 =>
  k v71_4 h4 nx4
noncomputable def H3_j9 (k : KV) (ih5 : Value → Value → Heap → Nat → Bool) (a1_10 : Value) (a3_10 : Value) (h : Heap) (nx : Nat) : Bool :=
  binK Tryz.prog .add 3 (.tmp 11) (.const (.int .i64 (.ofNat 1))) a3_10 (.int .i64 (.ofNat 1)) fun v12_11 =>
  ih5 a1_10 v12_11 h nx
noncomputable def H3_g44 (k : KV) (ih5 : Value → Value → Heap → Nat → Bool) (a1_13 : Value) (a3_13 : Value) (v64_43 : Value) (o66_45 : Option Value) (o67_45 : Option Value) (o68_45 : Option Value) (o69_45 : Option Value) (h : Heap) (nx : Nat) : Bool :=
  hPick v64_43 (some (.bool true)) o69_45 fun v70_46 =>
  hIf v70_46 (fun _ => false) (fun _ => H3_j9 k ih5 a1_13 a3_13 h nx)
noncomputable def H3_g41 (k : KV) (ih5 : Value → Value → Heap → Nat → Bool) (a1_13 : Value) (a3_13 : Value) (a4_13 : Value) (v58_40 : Value) (o60_42 : Option Value) (o61_42 : Option Value) (o62_42 : Option Value) (o63_42 : Option Value) (h : Heap) (nx : Nat) : Bool :=
  hPick v58_40 (some (.bool true)) o63_42 fun v64_43 =>
  hG (some v64_43) false (fun _ => H9 a4_13 h nx fun v67_47 h47 nx47 =>
  lenK Tryz.prog 40 v67_47 h47 fun v68_48 =>
  binK Tryz.prog .neq 3 (.tmp 68) (.const (.int .i64 (.ofNat 0))) v68_48 (.int .i64 (.ofNat 0)) fun v69_49 =>
  H3_g44 k ih5 a1_13 a3_13 v64_43 (some a4_13) (some v67_47) (some v68_48) (some v69_49) h47 nx47) (fun _ => H3_g44 k ih5 a1_13 a3_13 v64_43 none none none none h nx)
noncomputable def H3_g38 (k : KV) (ih5 : Value → Value → Heap → Nat → Bool) (a1_13 : Value) (a3_13 : Value) (a4_13 : Value) (v52_37 : Value) (o54_39 : Option Value) (o55_39 : Option Value) (o56_39 : Option Value) (o57_39 : Option Value) (h : Heap) (nx : Nat) : Bool :=
  hPick v52_37 (some (.bool true)) o57_39 fun v58_40 =>
  hG (some v58_40) false (fun _ => H8 a4_13 h nx fun v61_50 h50 nx50 =>
  hField Tryz.prog 36 v61_50 0 fun v62_51 =>
  binK Tryz.prog .neq 3 (.tmp 62) (.const (.int .i64 (.ofNat 0))) v62_51 (.int .i64 (.ofNat 0)) fun v63_52 =>
  H3_g41 k ih5 a1_13 a3_13 a4_13 v58_40 (some a4_13) (some v61_50) (some v62_51) (some v63_52) h50 nx50) (fun _ => H3_g41 k ih5 a1_13 a3_13 a4_13 v58_40 none none none none h nx)
noncomputable def H3_g35 (k : KV) (ih5 : Value → Value → Heap → Nat → Bool) (a1_13 : Value) (a3_13 : Value) (a4_13 : Value) (v42_34 : Value) (o44_36 : Option Value) (o45_36 : Option Value) (o46_36 : Option Value) (o47_36 : Option Value) (o48_36 : Option Value) (o49_36 : Option Value) (o50_36 : Option Value) (o51_36 : Option Value) (h : Heap) (nx : Nat) : Bool :=
  hPick v42_34 (some (.bool true)) o51_36 fun v52_37 =>
  hG (some v52_37) false (fun _ => H7 a4_13 h nx fun v55_53 h53 nx53 =>
  lenK Tryz.prog 41 v55_53 h53 fun v56_54 =>
  binK Tryz.prog .neq 3 (.tmp 56) (.const (.int .i64 (.ofNat 0))) v56_54 (.int .i64 (.ofNat 0)) fun v57_55 =>
  H3_g38 k ih5 a1_13 a3_13 a4_13 v52_37 (some a4_13) (some v55_53) (some v56_54) (some v57_55) h53 nx53) (fun _ => H3_g38 k ih5 a1_13 a3_13 a4_13 v52_37 none none none none h nx)
noncomputable def H3_g32 (k : KV) (ih5 : Value → Value → Heap → Nat → Bool) (a1_13 : Value) (a3_13 : Value) (a4_13 : Value) (v39_31 : Value) (o41_33 : Option Value) (h : Heap) (nx : Nat) : Bool :=
  hPick v39_31 (some (.bool true)) o41_33 fun v42_34 =>
  hG (some v42_34) false (fun _ => hFieldAddr Tryz.prog 26 a1_13 1 fun v45_56 =>
  loadK Tryz.prog 3 v45_56 h fun v46_57 =>
  hFieldAddr Tryz.prog 26 a1_13 3 fun v47_58 =>
  loadK Tryz.prog 22 v47_58 h fun v48_59 =>
  H6 a4_13 v46_57 v48_59 h nx fun v49_60 h60 nx60 =>
  lenK Tryz.prog 41 v49_60 h60 fun v50_61 =>
  binK Tryz.prog .neq 3 (.tmp 50) (.const (.int .i64 (.ofNat 0))) v50_61 (.int .i64 (.ofNat 0)) fun v51_62 =>
  H3_g35 k ih5 a1_13 a3_13 a4_13 v42_34 (some a4_13) (some v45_56) (some v46_57) (some v47_58) (some v48_59) (some v49_60) (some v50_61) (some v51_62) h60 nx60) (fun _ => H3_g35 k ih5 a1_13 a3_13 a4_13 v42_34 none none none none none none none none h nx)
noncomputable def H3_g29 (k : KV) (ih5 : Value → Value → Heap → Nat → Bool) (a1_13 : Value) (a3_13 : Value) (a4_13 : Value) (v32_25 : Value) (v34_28 : Value) (o36_30 : Option Value) (o37_30 : Option Value) (o38_30 : Option Value) (h : Heap) (nx : Nat) : Bool :=
  hPick v34_28 (some (.bool true)) o38_30 fun v39_31 =>
  hG (some v39_31) false (fun _ => H3_g32 k ih5 a1_13 a3_13 a4_13 v39_31 (some v32_25) h nx) (fun _ => H3_g32 k ih5 a1_13 a3_13 a4_13 v39_31 none h nx)
noncomputable def H3_j12 (k : KV) (ih5 : Value → Value → Heap → Nat → Bool) (a1_13 : Value) (a3_13 : Value) (a4_13 : Value) (h : Heap) (nx : Nat) : Bool :=
  hFieldAddr Tryz.prog 26 a1_13 1 fun v19_14 =>
  loadK Tryz.prog 3 v19_14 h fun v20_15 =>
  hFieldAddr Tryz.prog 26 a1_13 2 fun v21_16 =>
  loadK Tryz.prog 3 v21_16 h fun v22_17 =>
  H4 a4_13 v20_15 v22_17 h nx fun v23_18 h18 nx18 =>
  hExtract v23_18 0 fun v24_19 =>
  hExtract v23_18 1 fun v25_20 =>
  hFieldAddr Tryz.prog 26 a1_13 1 fun v28_21 =>
  loadK Tryz.prog 3 v28_21 h18 fun v29_22 =>
  H5 a4_13 v29_22 h18 nx18 fun v30_23 h23 nx23 =>
  hExtract v30_23 0 fun v31_24 =>
  hExtract v30_23 1 fun v32_25 =>
  hAlloc Tryz.prog 59 h23 nx23 fun v7_26 h26 nx26 =>
  storeK Tryz.prog 59 v7_26 v31_24 h26 fun h27 =>
  binK Tryz.prog .neq 44 (.tmp 33) (.const (.int .i64 (.ofNat 1))) v25_20 (.int .i64 (.ofNat 1)) fun v34_28 =>
  hG (some v34_28) false (fun _ => lenK Tryz.prog 41 v24_19 h27 fun v37_63 =>
  binK Tryz.prog .neq 3 (.tmp 37) (.const (.int .i64 (.ofNat 0))) v37_63 (.int .i64 (.ofNat 0)) fun v38_64 =>
  H3_g29 k ih5 a1_13 a3_13 a4_13 v32_25 v34_28 (some v24_19) (some v37_63) (some v38_64) h27 nx26) (fun _ => H3_g29 k ih5 a1_13 a3_13 a4_13 v32_25 v34_28 none none none h27 nx26)
noncomputable def H3_j7 (k : KV) (ih5 : Value → Value → Heap → Nat → Bool) (a1_8 : Value) (a3_8 : Value) (h : Heap) (nx : Nat) : Bool :=
  binK Tryz.prog .eql 3 (.tmp 13) (.const (.int .i64 (.ofNat 1))) a3_8 (.int .i64 (.ofNat 1)) fun v14_65 =>
  hIf v14_65 (fun _ => hBuild Tryz.prog 43 [] fun v15_66 =>
  hBox v15_66 h nx fun v16_67 h67 nx67 =>
  H3_j12 k ih5 a1_8 a3_8 v16_67 h67 nx67) (fun _ => H3_j12 k ih5 a1_8 a3_8 (.pointer none) h nx)
noncomputable def H3_l5 (k : KV)  (n : Nat) : Value → Value → Heap → Nat → Bool :=
  Nat.rec (motive := fun _ => Value → Value → Heap → Nat → Bool) (fun _ _ _ _ => false) (fun _ ih5 a1_6 a3_6 h nx => binK Tryz.prog .lss 3 (.tmp 9) (.const (.int .i64 (.ofNat 2))) a3_6 (.int .i64 (.ofNat 2)) fun v10_68 =>
  hIf v10_68 (fun _ => H3_j7 k ih5 a1_6 a3_6 h nx) (fun _ => H3_j2 k   h nx)) n
noncomputable def H3 (a0 : Value) (h : Heap) (nx : Nat) (k : KV) : Bool :=
  hBox a0 h nx fun v1_1 h1 nx1 =>
  H3_l5 k  200000 v1_1 (.int .i64 (.ofNat 0)) h1 nx1
theorem sim3 {a0 : Value} {h : Heap} {nx : Nat} {k : KV} (H : H3 a0 h nx k = true) : ∃ v h' nx', k v h' nx' = true ∧ CallSim Tryz.prog 3 [a0] h nx v h' nx' := by
  refine fn_rule Tryz.func3 rfl rfl ?_
  refine CJ.seq ?_
  refine CJ.region ?_
  refine OJ.fu rfl rfl rfl (r_box rfl rfl H) ?_
  intro v1_1 h1 nx1 H
  refine OJ.mv rfl rfl rfl (r_assign rfl rfl) ?_
  refine OJ.fin ?_
  refine CJ.seq (CJ.cut (X := Unit) (fun x h nx => H3_j2 k   h nx) (fun x => []) ?_ ?_)
  · refine CJ.seq ?_
    refine CJ.region ?_
    refine OJ.mv rfl rfl rfl (r_assign rfl rfl) ?_
    refine OJ.fin ?_
    refine CJ.block ?_
    refine CJ.weaken [(1, (some v1_1)), (3, (some (.int .i64 (.ofNat 0))))] (And.intro rfl (And.intro rfl True.intro)) ?_
    refine CJ.loop_ind (X := Value × Value × Unit) (fun n x h nx => H3_l5 k  n x.1 x.2.1 h nx) (fun x => [(1, some x.1), (3, some x.2.1)]) (fun _ _ _ => rfl) ?_ 200000 (v1_1, (.int .i64 (.ofNat 0)), ()) _ _ H
    intro ih5n ih5p ⟨a1_6, a3_6, _u⟩ h nx H
    let ih5 := H3_l5 k  ih5n
    refine CJ.seq (CJ.cut (X := Value × Value × Unit) (fun x h nx => H3_j7 k ih5 x.1 x.2.1 h nx) (fun x => [(1, some x.1), (3, some x.2.1)]) ?_ ?_)
    · refine CJ.seq ?_
      refine CJ.region ?_
      refine OJ.mv rfl rfl rfl (r_move rfl rfl) ?_
      refine OJ.rd rfl rfl rfl (r_bin rfl rfl rfl H) ?_
      intro v10_68 H
      refine OJ.fin ?_
      refine CJ.ite rfl H (fun H => ?_) (fun H => ?_)
      · exact CJ.skip [(1, (some a1_6)), (3, (some a3_6))] (And.intro rfl (And.intro rfl True.intro)) (Exists.intro (a1_6, a3_6, ()) (And.intro rfl H))
      · exact CJ.exit [] True.intro (Exists.intro () (And.intro rfl H))
    · intro ⟨a1_8, a3_8, _u⟩ h nx H
      refine CJ.seq (CJ.cut (X := Value × Value × Unit) (fun x h nx => H3_j9 k ih5 x.1 x.2.1 h nx) (fun x => [(1, some x.1), (3, some x.2.1)]) ?_ ?_)
      · refine CJ.block ?_
        refine CJ.seq ?_
        refine CJ.region ?_
        refine OJ.mv rfl rfl rfl (r_assign rfl rfl) ?_
        refine OJ.fin ?_
        refine CJ.seq (CJ.cut (X := Value × Value × Value × Unit) (fun x h nx => H3_j12 k ih5 x.1 x.2.1 x.2.2.1 h nx) (fun x => [(1, some x.1), (3, some x.2.1), (4, some x.2.2.1)]) ?_ ?_)
        · refine CJ.seq ?_
          refine CJ.region ?_
          refine OJ.mv rfl rfl rfl (r_move rfl rfl) ?_
          refine OJ.rd rfl rfl rfl (r_bin rfl rfl rfl H) ?_
          intro v14_65 H
          refine OJ.fin ?_
          refine CJ.ite rfl H (fun H => ?_) (fun H => ?_)
          · refine CJ.region ?_
            refine OJ.rd rfl rfl rfl (r_build (vs := []) rfl True.intro H) ?_
            intro v15_66 H
            refine OJ.fu rfl rfl rfl (r_box rfl rfl H) ?_
            intro v16_67 h67 nx67 H
            refine OJ.mv rfl rfl rfl (r_assign rfl rfl) ?_
            exact OJ.done [(1, (some a1_8)), (3, (some a3_8)), (4, (some v16_67))] (And.intro rfl (And.intro rfl (And.intro rfl True.intro))) (Exists.intro (a1_8, a3_8, v16_67, ()) (And.intro rfl H))
          · exact CJ.skip [(1, (some a1_8)), (3, (some a3_8)), (4, (some (.pointer none)))] (And.intro rfl (And.intro rfl (And.intro rfl True.intro))) (Exists.intro (a1_8, a3_8, (.pointer none), ()) (And.intro rfl H))
        · intro ⟨a1_13, a3_13, a4_13, _u⟩ h nx H
          refine CJ.seq ?_
          refine CJ.region ?_
          refine OJ.mv rfl rfl rfl (r_move rfl rfl) ?_
          refine OJ.rd rfl rfl rfl (r_fieldAddr rfl rfl H) ?_
          intro v19_14 H
          refine OJ.rd rfl rfl rfl (r_load rfl rfl H) ?_
          intro v20_15 H
          refine OJ.rd rfl rfl rfl (r_fieldAddr rfl rfl H) ?_
          intro v21_16 H
          refine OJ.rd rfl rfl rfl (r_load rfl rfl H) ?_
          intro v22_17 H
          refine OJ.fu rfl rfl rfl (r_call (args := [a4_13, v20_15, v22_17]) rfl rfl rfl (And.intro rfl (And.intro rfl (And.intro rfl True.intro))) Tryz.call4 (sim4 H)) ?_
          intro v23_18 h18 nx18 H
          refine OJ.mv rfl rfl rfl (r_move rfl rfl) ?_
          refine OJ.rd rfl rfl rfl (r_extract rfl rfl H) ?_
          intro v24_19 H
          refine OJ.rd rfl rfl rfl (r_extract rfl rfl H) ?_
          intro v25_20 H
          refine OJ.mv rfl rfl rfl (r_assign rfl rfl) ?_
          refine OJ.mv rfl rfl rfl (r_assign rfl rfl) ?_
          refine OJ.fin ?_
          refine CJ.seq ?_
          refine CJ.region ?_
          refine OJ.mv rfl rfl rfl (r_move rfl rfl) ?_
          refine OJ.rd rfl rfl rfl (r_fieldAddr rfl rfl H) ?_
          intro v28_21 H
          refine OJ.rd rfl rfl rfl (r_load rfl rfl H) ?_
          intro v29_22 H
          refine OJ.fu rfl rfl rfl (r_call (args := [a4_13, v29_22]) rfl rfl rfl (And.intro rfl (And.intro rfl True.intro)) Tryz.call5 (sim5 H)) ?_
          intro v30_23 h23 nx23 H
          refine OJ.mv rfl rfl rfl (r_move rfl rfl) ?_
          refine OJ.rd rfl rfl rfl (r_extract rfl rfl H) ?_
          intro v31_24 H
          refine OJ.rd rfl rfl rfl (r_extract rfl rfl H) ?_
          intro v32_25 H
          refine OJ.fu rfl rfl rfl (r_alloc1 rfl H) ?_
          intro v7_26 h26 nx26 H
          refine OJ.wr rfl rfl (r_store rfl rfl rfl H) ?_
          intro h27 H
          refine OJ.mv rfl rfl rfl (r_assign rfl rfl) ?_
          refine OJ.fin ?_
          refine CJ.seq ?_
          refine CJ.region ?_
          refine OJ.mv rfl rfl rfl (r_move rfl rfl) ?_
          refine OJ.rd rfl rfl rfl (r_bin rfl rfl rfl H) ?_
          intro v34_28 H
          refine OJ.mv rfl rfl rfl (r_move rfl rfl) ?_
          refine OJ.cut (X := Option Value × Option Value × Option Value × Unit) 3 (fun x h nx => H3_g29 k ih5 a1_13 a3_13 a4_13 v32_25 v34_28 x.1 x.2.1 x.2.2.1 h nx) (fun x => [(36, x.1), (37, x.2.1), (38, x.2.2.1), (1, (some a1_13)), (3, (some a3_13)), (4, (some a4_13)), (8, (some v32_25)), (35, (some v34_28))]) ?_ (fun next => ?_)
          · intro ⟨o36_30, o37_30, o38_30, _u⟩ h nx H
            refine OJ.rd rfl rfl rfl (r_pick rfl rfl rfl rfl H) ?_
            intro v39_31 H
            refine OJ.mv rfl rfl rfl (r_move rfl rfl) ?_
            refine OJ.cut (X := Option Value × Unit) 1 (fun x h nx => H3_g32 k ih5 a1_13 a3_13 a4_13 v39_31 x.1 h nx) (fun x => [(41, x.1), (1, (some a1_13)), (3, (some a3_13)), (4, (some a4_13)), (40, (some v39_31))]) ?_ (fun next => ?_)
            · intro ⟨o41_33, _u⟩ h nx H
              refine OJ.rd rfl rfl rfl (r_pick rfl rfl rfl rfl H) ?_
              intro v42_34 H
              refine OJ.mv rfl rfl rfl (r_move rfl rfl) ?_
              refine OJ.cut (X := Option Value × Option Value × Option Value × Option Value × Option Value × Option Value × Option Value × Option Value × Unit) 8 (fun x h nx => H3_g35 k ih5 a1_13 a3_13 a4_13 v42_34 x.1 x.2.1 x.2.2.1 x.2.2.2.1 x.2.2.2.2.1 x.2.2.2.2.2.1 x.2.2.2.2.2.2.1 x.2.2.2.2.2.2.2.1 h nx) (fun x => [(44, x.1), (45, x.2.1), (46, x.2.2.1), (47, x.2.2.2.1), (48, x.2.2.2.2.1), (49, x.2.2.2.2.2.1), (50, x.2.2.2.2.2.2.1), (51, x.2.2.2.2.2.2.2.1), (1, (some a1_13)), (3, (some a3_13)), (4, (some a4_13)), (43, (some v42_34))]) ?_ (fun next => ?_)
              · intro ⟨o44_36, o45_36, o46_36, o47_36, o48_36, o49_36, o50_36, o51_36, _u⟩ h nx H
                refine OJ.rd rfl rfl rfl (r_pick rfl rfl rfl rfl H) ?_
                intro v52_37 H
                refine OJ.mv rfl rfl rfl (r_move rfl rfl) ?_
                refine OJ.cut (X := Option Value × Option Value × Option Value × Option Value × Unit) 4 (fun x h nx => H3_g38 k ih5 a1_13 a3_13 a4_13 v52_37 x.1 x.2.1 x.2.2.1 x.2.2.2.1 h nx) (fun x => [(54, x.1), (55, x.2.1), (56, x.2.2.1), (57, x.2.2.2.1), (1, (some a1_13)), (3, (some a3_13)), (4, (some a4_13)), (53, (some v52_37))]) ?_ (fun next => ?_)
                · intro ⟨o54_39, o55_39, o56_39, o57_39, _u⟩ h nx H
                  refine OJ.rd rfl rfl rfl (r_pick rfl rfl rfl rfl H) ?_
                  intro v58_40 H
                  refine OJ.mv rfl rfl rfl (r_move rfl rfl) ?_
                  refine OJ.cut (X := Option Value × Option Value × Option Value × Option Value × Unit) 4 (fun x h nx => H3_g41 k ih5 a1_13 a3_13 a4_13 v58_40 x.1 x.2.1 x.2.2.1 x.2.2.2.1 h nx) (fun x => [(60, x.1), (61, x.2.1), (62, x.2.2.1), (63, x.2.2.2.1), (1, (some a1_13)), (3, (some a3_13)), (4, (some a4_13)), (59, (some v58_40))]) ?_ (fun next => ?_)
                  · intro ⟨o60_42, o61_42, o62_42, o63_42, _u⟩ h nx H
                    refine OJ.rd rfl rfl rfl (r_pick rfl rfl rfl rfl H) ?_
                    intro v64_43 H
                    refine OJ.mv rfl rfl rfl (r_move rfl rfl) ?_
                    refine OJ.cut (X := Option Value × Option Value × Option Value × Option Value × Unit) 4 (fun x h nx => H3_g44 k ih5 a1_13 a3_13 v64_43 x.1 x.2.1 x.2.2.1 x.2.2.2.1 h nx) (fun x => [(66, x.1), (67, x.2.1), (68, x.2.2.1), (69, x.2.2.2.1), (1, (some a1_13)), (3, (some a3_13)), (65, (some v64_43))]) ?_ (fun next => ?_)
                    · intro ⟨o66_45, o67_45, o68_45, o69_45, _u⟩ h nx H
                      refine OJ.rd rfl rfl rfl (r_pick rfl rfl rfl rfl H) ?_
                      intro v70_46 H
                      refine OJ.fin ?_
                      refine CJ.ite rfl H (fun H => ?_) (fun H => ?_)
                      · cases H
                      · exact CJ.skip [(1, (some a1_13)), (3, (some a3_13))] (And.intro rfl (And.intro rfl True.intro)) (Exists.intro (a1_13, a3_13, ()) (And.intro rfl H))
                    · rcases hG_true H with ⟨g, H⟩ | ⟨g, H⟩
                      · refine OJ.gmv rfl rfl rfl g rfl rfl (r_move rfl rfl) ?_
                        refine OJ.gfu rfl rfl rfl g rfl rfl (r_call (args := [a4_13]) rfl rfl rfl (And.intro rfl True.intro) Tryz.call9 (sim9 H)) ?_
                        intro v67_47 h47 nx47 H
                        refine OJ.grd rfl rfl rfl g rfl rfl (r_len (x := default) rfl rfl (And.intro rfl True.intro) rfl H) ?_
                        intro v68_48 H
                        refine OJ.grd rfl rfl rfl g rfl rfl (r_bin rfl rfl rfl H) ?_
                        intro v69_49 H
                        exact OJ.weaken [(66, (some a4_13)), (67, (some v67_47)), (68, (some v68_48)), (69, (some v69_49)), (1, (some a1_13)), (3, (some a3_13)), (65, (some v64_43))] (And.intro rfl (And.intro rfl (And.intro rfl (And.intro rfl (And.intro rfl (And.intro rfl (And.intro rfl True.intro))))))) (next ((some a4_13), (some v67_47), (some v68_48), (some v69_49), ()) _ _ H)
                      · refine OJ.no rfl rfl rfl g rfl rfl ?_
                        refine OJ.no rfl rfl rfl g rfl rfl ?_
                        refine OJ.no rfl rfl rfl g rfl rfl ?_
                        refine OJ.no rfl rfl rfl g rfl rfl ?_
                        exact OJ.weaken [(66, none), (67, none), (68, none), (69, none), (1, (some a1_13)), (3, (some a3_13)), (65, (some v64_43))] (And.intro rfl (And.intro rfl (And.intro rfl (And.intro rfl (And.intro rfl (And.intro rfl (And.intro rfl True.intro))))))) (next (none, none, none, none, ()) _ _ H)
                  · rcases hG_true H with ⟨g, H⟩ | ⟨g, H⟩
                    · refine OJ.gmv rfl rfl rfl g rfl rfl (r_move rfl rfl) ?_
                      refine OJ.gfu rfl rfl rfl g rfl rfl (r_call (args := [a4_13]) rfl rfl rfl (And.intro rfl True.intro) Tryz.call8 (sim8 H)) ?_
                      intro v61_50 h50 nx50 H
                      refine OJ.grd rfl rfl rfl g rfl rfl (r_field rfl rfl H) ?_
                      intro v62_51 H
                      refine OJ.grd rfl rfl rfl g rfl rfl (r_bin rfl rfl rfl H) ?_
                      intro v63_52 H
                      exact OJ.weaken [(60, (some a4_13)), (61, (some v61_50)), (62, (some v62_51)), (63, (some v63_52)), (1, (some a1_13)), (3, (some a3_13)), (4, (some a4_13)), (59, (some v58_40))] (And.intro rfl (And.intro rfl (And.intro rfl (And.intro rfl (And.intro rfl (And.intro rfl (And.intro rfl (And.intro rfl True.intro)))))))) (next ((some a4_13), (some v61_50), (some v62_51), (some v63_52), ()) _ _ H)
                    · refine OJ.no rfl rfl rfl g rfl rfl ?_
                      refine OJ.no rfl rfl rfl g rfl rfl ?_
                      refine OJ.no rfl rfl rfl g rfl rfl ?_
                      refine OJ.no rfl rfl rfl g rfl rfl ?_
                      exact OJ.weaken [(60, none), (61, none), (62, none), (63, none), (1, (some a1_13)), (3, (some a3_13)), (4, (some a4_13)), (59, (some v58_40))] (And.intro rfl (And.intro rfl (And.intro rfl (And.intro rfl (And.intro rfl (And.intro rfl (And.intro rfl (And.intro rfl True.intro)))))))) (next (none, none, none, none, ()) _ _ H)
                · rcases hG_true H with ⟨g, H⟩ | ⟨g, H⟩
                  · refine OJ.gmv rfl rfl rfl g rfl rfl (r_move rfl rfl) ?_
                    refine OJ.gfu rfl rfl rfl g rfl rfl (r_call (args := [a4_13]) rfl rfl rfl (And.intro rfl True.intro) Tryz.call7 (sim7 H)) ?_
                    intro v55_53 h53 nx53 H
                    refine OJ.grd rfl rfl rfl g rfl rfl (r_len (x := default) rfl rfl (And.intro rfl True.intro) rfl H) ?_
                    intro v56_54 H
                    refine OJ.grd rfl rfl rfl g rfl rfl (r_bin rfl rfl rfl H) ?_
                    intro v57_55 H
                    exact OJ.weaken [(54, (some a4_13)), (55, (some v55_53)), (56, (some v56_54)), (57, (some v57_55)), (1, (some a1_13)), (3, (some a3_13)), (4, (some a4_13)), (53, (some v52_37))] (And.intro rfl (And.intro rfl (And.intro rfl (And.intro rfl (And.intro rfl (And.intro rfl (And.intro rfl (And.intro rfl True.intro)))))))) (next ((some a4_13), (some v55_53), (some v56_54), (some v57_55), ()) _ _ H)
                  · refine OJ.no rfl rfl rfl g rfl rfl ?_
                    refine OJ.no rfl rfl rfl g rfl rfl ?_
                    refine OJ.no rfl rfl rfl g rfl rfl ?_
                    refine OJ.no rfl rfl rfl g rfl rfl ?_
                    exact OJ.weaken [(54, none), (55, none), (56, none), (57, none), (1, (some a1_13)), (3, (some a3_13)), (4, (some a4_13)), (53, (some v52_37))] (And.intro rfl (And.intro rfl (And.intro rfl (And.intro rfl (And.intro rfl (And.intro rfl (And.intro rfl (And.intro rfl True.intro)))))))) (next (none, none, none, none, ()) _ _ H)
              · rcases hG_true H with ⟨g, H⟩ | ⟨g, H⟩
                · refine OJ.gmv rfl rfl rfl g rfl rfl (r_move rfl rfl) ?_
                  refine OJ.grd rfl rfl rfl g rfl rfl (r_fieldAddr rfl rfl H) ?_
                  intro v45_56 H
                  refine OJ.grd rfl rfl rfl g rfl rfl (r_load rfl rfl H) ?_
                  intro v46_57 H
                  refine OJ.grd rfl rfl rfl g rfl rfl (r_fieldAddr rfl rfl H) ?_
                  intro v47_58 H
                  refine OJ.grd rfl rfl rfl g rfl rfl (r_load rfl rfl H) ?_
                  intro v48_59 H
                  refine OJ.gfu rfl rfl rfl g rfl rfl (r_call (args := [a4_13, v46_57, v48_59]) rfl rfl rfl (And.intro rfl (And.intro rfl (And.intro rfl True.intro))) Tryz.call6 (sim6 H)) ?_
                  intro v49_60 h60 nx60 H
                  refine OJ.grd rfl rfl rfl g rfl rfl (r_len (x := default) rfl rfl (And.intro rfl True.intro) rfl H) ?_
                  intro v50_61 H
                  refine OJ.grd rfl rfl rfl g rfl rfl (r_bin rfl rfl rfl H) ?_
                  intro v51_62 H
                  exact OJ.weaken [(44, (some a4_13)), (45, (some v45_56)), (46, (some v46_57)), (47, (some v47_58)), (48, (some v48_59)), (49, (some v49_60)), (50, (some v50_61)), (51, (some v51_62)), (1, (some a1_13)), (3, (some a3_13)), (4, (some a4_13)), (43, (some v42_34))] (And.intro rfl (And.intro rfl (And.intro rfl (And.intro rfl (And.intro rfl (And.intro rfl (And.intro rfl (And.intro rfl (And.intro rfl (And.intro rfl (And.intro rfl (And.intro rfl True.intro)))))))))))) (next ((some a4_13), (some v45_56), (some v46_57), (some v47_58), (some v48_59), (some v49_60), (some v50_61), (some v51_62), ()) _ _ H)
                · refine OJ.no rfl rfl rfl g rfl rfl ?_
                  refine OJ.no rfl rfl rfl g rfl rfl ?_
                  refine OJ.no rfl rfl rfl g rfl rfl ?_
                  refine OJ.no rfl rfl rfl g rfl rfl ?_
                  refine OJ.no rfl rfl rfl g rfl rfl ?_
                  refine OJ.no rfl rfl rfl g rfl rfl ?_
                  refine OJ.no rfl rfl rfl g rfl rfl ?_
                  refine OJ.no rfl rfl rfl g rfl rfl ?_
                  exact OJ.weaken [(44, none), (45, none), (46, none), (47, none), (48, none), (49, none), (50, none), (51, none), (1, (some a1_13)), (3, (some a3_13)), (4, (some a4_13)), (43, (some v42_34))] (And.intro rfl (And.intro rfl (And.intro rfl (And.intro rfl (And.intro rfl (And.intro rfl (And.intro rfl (And.intro rfl (And.intro rfl (And.intro rfl (And.intro rfl (And.intro rfl True.intro)))))))))))) (next (none, none, none, none, none, none, none, none, ()) _ _ H)
            · rcases hG_true H with ⟨g, H⟩ | ⟨g, H⟩
              · refine OJ.gmv rfl rfl rfl g rfl rfl (r_move rfl rfl) ?_
                exact OJ.weaken [(41, (some v32_25)), (1, (some a1_13)), (3, (some a3_13)), (4, (some a4_13)), (40, (some v39_31))] (And.intro rfl (And.intro rfl (And.intro rfl (And.intro rfl (And.intro rfl True.intro))))) (next ((some v32_25), ()) _ _ H)
              · refine OJ.no rfl rfl rfl g rfl rfl ?_
                exact OJ.weaken [(41, none), (1, (some a1_13)), (3, (some a3_13)), (4, (some a4_13)), (40, (some v39_31))] (And.intro rfl (And.intro rfl (And.intro rfl (And.intro rfl (And.intro rfl True.intro))))) (next (none, ()) _ _ H)
          · rcases hG_true H with ⟨g, H⟩ | ⟨g, H⟩
            · refine OJ.gmv rfl rfl rfl g rfl rfl (r_move rfl rfl) ?_
              refine OJ.grd rfl rfl rfl g rfl rfl (r_len (x := default) rfl rfl (And.intro rfl True.intro) rfl H) ?_
              intro v37_63 H
              refine OJ.grd rfl rfl rfl g rfl rfl (r_bin rfl rfl rfl H) ?_
              intro v38_64 H
              exact OJ.weaken [(36, (some v24_19)), (37, (some v37_63)), (38, (some v38_64)), (1, (some a1_13)), (3, (some a3_13)), (4, (some a4_13)), (8, (some v32_25)), (35, (some v34_28))] (And.intro rfl (And.intro rfl (And.intro rfl (And.intro rfl (And.intro rfl (And.intro rfl (And.intro rfl (And.intro rfl True.intro)))))))) (next ((some v24_19), (some v37_63), (some v38_64), ()) _ _ H)
            · refine OJ.no rfl rfl rfl g rfl rfl ?_
              refine OJ.no rfl rfl rfl g rfl rfl ?_
              refine OJ.no rfl rfl rfl g rfl rfl ?_
              exact OJ.weaken [(36, none), (37, none), (38, none), (1, (some a1_13)), (3, (some a3_13)), (4, (some a4_13)), (8, (some v32_25)), (35, (some v34_28))] (And.intro rfl (And.intro rfl (And.intro rfl (And.intro rfl (And.intro rfl (And.intro rfl (And.intro rfl (And.intro rfl True.intro)))))))) (next (none, none, none, ()) _ _ H)
      · intro ⟨a1_10, a3_10, _u⟩ h nx H
        refine CJ.region ?_
        refine OJ.mv rfl rfl rfl (r_move rfl rfl) ?_
        refine OJ.rd rfl rfl rfl (r_bin rfl rfl rfl H) ?_
        intro v12_11 H
        refine OJ.mv rfl rfl rfl (r_assign rfl rfl) ?_
        exact OJ.done [(1, (some a1_10)), (3, (some v12_11))] (And.intro rfl (And.intro rfl True.intro)) (ih5p (a1_10, v12_11, ()) _ _ H)
  · intro _u h nx H
    refine CJ.seq ?_
    refine CJ.region ?_
    refine OJ.fu rfl rfl rfl (r_call (args := []) rfl rfl rfl True.intro Tryz.call10 (sim10 H)) ?_
    intro v71_4 h4 nx4 H
    refine OJ.mv rfl rfl rfl (r_assign rfl rfl) ?_
    refine OJ.fin ?_
    refine CJ.ret1 ?_
    exact ret_one (Or.inr rfl) rfl rfl H
end Go.Proofs
