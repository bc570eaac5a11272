import Derived.Test.YtakdilnjnpbbdaaGreatAmG
import Derived.Test.YtakdilnjnpbbdaaGreatProg
set_option linter.unusedVariables false
set_option maxRecDepth 8000
namespace Go.Proofs
open Go.AM
attribute [local irreducible] loadK storeK hNil binK hUn hConv hFieldAddr hField hIndexAddr hIndex hExtract hAlloc hBox hMakeMap hMakeFunc hMakeSlice lenK capK hAppend hCopy hMin hMax hSlice hBuild hBuildSlice hLookup hMapUpdate hClear hNT hIs hL0 hLc hFn optK hPick hIf hG hRet appendK copyK
/-! 11 -/
noncomputable def H11_g2 (k : KV)  (v4_1 : Value) (o6_3 : Option Value) (o7_3 : Option Value) (o8_3 : Option Value) (o9_3 : Option Value) (o10_3 : Option Value) (o11_3 : Option Value) (h : Heap) (nx : Nat) : Bool :=
  hPick v4_1 o11_3 (some (.bool false)) fun v12_4 =>
  k v12_4 h nx
noncomputable def H11 (a0 : Value) (h : Heap) (nx : Nat) (k : KV) : Bool :=
  binK Tryz.prog .neq 27 (.tmp 3) (.const (.pointer none)) a0 (.pointer none) fun v4_1 =>
  hG (some v4_1) true (fun _ => hNil a0 fun v7_5 =>
  hFieldAddr Tryz.prog 43 v7_5 0 fun v8_6 =>
  hFieldAddr Tryz.prog 36 v8_6 0 fun v9_7 =>
  loadK Tryz.prog 3 v9_7 h fun v10_8 =>
  binK Tryz.prog .neq 3 (.tmp 10) (.const (.int .i64 (.ofNat 0))) v10_8 (.int .i64 (.ofNat 0)) fun v11_9 =>
  H11_g2 k  v4_1 (some a0) (some v7_5) (some v8_6) (some v9_7) (some v10_8) (some v11_9) h nx) (fun _ => H11_g2 k  v4_1 none none none none none none h nx)
theorem sim11 {a0 : Value} {h : Heap} {nx : Nat} {k : KV} (H : H11 a0 h nx k = true) : ∃ v h' nx', k v h' nx' = true ∧ CallSim Tryz.prog 11 [a0] h nx v h' nx' := by
  refine fn_rule Tryz.func11 rfl rfl ?_
  refine CJ.seq ?_
  refine CJ.region ?_
  refine OJ.mv rfl rfl rfl (r_assign rfl rfl) ?_
  refine OJ.fin ?_
  refine CJ.seq ?_
  refine CJ.region ?_
  refine OJ.mv rfl rfl rfl (r_move rfl rfl) ?_
  refine OJ.rd rfl rfl rfl (r_bin rfl rfl rfl H) ?_
  intro v4_1 H
  refine OJ.mv rfl rfl rfl (r_move rfl rfl) ?_
  refine OJ.cut (X := Option Value × Option Value × Option Value × Option Value × Option Value × Option Value × Unit) 6 (fun x h nx => H11_g2 k  v4_1 x.1 x.2.1 x.2.2.1 x.2.2.2.1 x.2.2.2.2.1 x.2.2.2.2.2.1 h nx) (fun x => [(6, x.1), (7, x.2.1), (8, x.2.2.1), (9, x.2.2.2.1), (10, x.2.2.2.2.1), (11, x.2.2.2.2.2.1), (5, (some v4_1))]) ?_ (fun next => ?_)
  · intro ⟨o6_3, o7_3, o8_3, o9_3, o10_3, o11_3, _u⟩ h nx H
    refine OJ.rd rfl rfl rfl (r_pick rfl rfl rfl rfl H) ?_
    intro v12_4 H
    refine OJ.mv rfl rfl rfl (r_assign rfl rfl) ?_
    refine OJ.fin ?_
    refine CJ.ret1 ?_
    exact ret_one (Or.inr rfl) rfl rfl H
  · rcases hG_true H with ⟨g, H⟩ | ⟨g, H⟩
    · refine OJ.gmv rfl rfl rfl g rfl rfl (r_move rfl rfl) ?_
      refine OJ.grd rfl rfl rfl g rfl rfl (r_nil rfl rfl H) ?_
      intro v7_5 H
      refine OJ.grd rfl rfl rfl g rfl rfl (r_fieldAddr rfl rfl H) ?_
      intro v8_6 H
      refine OJ.grd rfl rfl rfl g rfl rfl (r_fieldAddr rfl rfl H) ?_
      intro v9_7 H
      refine OJ.grd rfl rfl rfl g rfl rfl (r_load rfl rfl H) ?_
      intro v10_8 H
      refine OJ.grd rfl rfl rfl g rfl rfl (r_bin rfl rfl rfl H) ?_
      intro v11_9 H
      exact OJ.weaken [(6, (some a0)), (7, (some v7_5)), (8, (some v8_6)), (9, (some v9_7)), (10, (some v10_8)), (11, (some v11_9)), (5, (some v4_1))] (And.intro rfl (And.intro rfl (And.intro rfl (And.intro rfl (And.intro rfl (And.intro rfl (And.intro rfl True.intro))))))) (next ((some a0), (some v7_5), (some v8_6), (some v9_7), (some v10_8), (some v11_9), ()) _ _ H)
    · refine OJ.no rfl rfl rfl g rfl rfl ?_
      refine OJ.no rfl rfl rfl g rfl rfl ?_
      refine OJ.no rfl rfl rfl g rfl rfl ?_
      refine OJ.no rfl rfl rfl g rfl rfl ?_
      refine OJ.no rfl rfl rfl g rfl rfl ?_
      refine OJ.no rfl rfl rfl g rfl rfl ?_
      exact OJ.weaken [(6, none), (7, none), (8, none), (9, none), (10, none), (11, none), (5, (some v4_1))] (And.intro rfl (And.intro rfl (And.intro rfl (And.intro rfl (And.intro rfl (And.intro rfl (And.intro rfl True.intro))))))) (next (none, none, none, none, none, none, ()) _ _ H)

/-! 96 -/
noncomputable def H96_g2 (k : KV)  (v7_1 : Value) (o9_3 : Option Value) (o10_3 : Option Value) (h : Heap) (nx : Nat) : Bool :=
  hPick v7_1 o10_3 (some (.bool false)) fun v11_4 =>
  k v11_4 h nx
noncomputable def H96 (a0 : Value) (a1 : Value) (h : Heap) (nx : Nat) (k : KV) : Bool :=
  binK Tryz.prog .geq 3 (.tmp 5) (.tmp 6) a0 a1 fun v7_1 =>
  hG (some v7_1) true (fun _ => binK Tryz.prog .leq 3 (.tmp 9) (.const (.int .i64 (.ofNat 2147483647))) a0 (.int .i64 (.ofNat 2147483647)) fun v10_5 =>
  H96_g2 k  v7_1 (some a0) (some v10_5) h nx) (fun _ => H96_g2 k  v7_1 none none h nx)
theorem sim96 {a0 a1 : Value} {h : Heap} {nx : Nat} {k : KV} (H : H96 a0 a1 h nx k = true) : ∃ v h' nx', k v h' nx' = true ∧ CallSim Tryz.prog 96 [a0, a1] h nx v h' nx' := by
  refine fn_rule Tryz.func96 rfl rfl ?_
  refine CJ.seq ?_
  refine CJ.region ?_
  refine OJ.mv rfl rfl rfl (r_assign rfl rfl) ?_
  refine OJ.fin ?_
  refine CJ.seq ?_
  refine CJ.region ?_
  refine OJ.mv rfl rfl rfl (r_move rfl rfl) ?_
  refine OJ.mv rfl rfl rfl (r_move rfl rfl) ?_
  refine OJ.rd rfl rfl rfl (r_bin rfl rfl rfl H) ?_
  intro v7_1 H
  refine OJ.mv rfl rfl rfl (r_move rfl rfl) ?_
  refine OJ.cut (X := Option Value × Option Value × Unit) 2 (fun x h nx => H96_g2 k  v7_1 x.1 x.2.1 h nx) (fun x => [(9, x.1), (10, x.2.1), (8, (some v7_1))]) ?_ (fun next => ?_)
  · intro ⟨o9_3, o10_3, _u⟩ h nx H
    refine OJ.rd rfl rfl rfl (r_pick rfl rfl rfl rfl H) ?_
    intro v11_4 H
    refine OJ.mv rfl rfl rfl (r_assign rfl rfl) ?_
    refine OJ.fin ?_
    refine CJ.ret1 ?_
    exact ret_one (Or.inr rfl) rfl rfl H
  · rcases hG_true H with ⟨g, H⟩ | ⟨g, H⟩
    · refine OJ.gmv rfl rfl rfl g rfl rfl (r_move rfl rfl) ?_
      refine OJ.grd rfl rfl rfl g rfl rfl (r_bin rfl rfl rfl H) ?_
      intro v10_5 H
      exact OJ.weaken [(9, (some a0)), (10, (some v10_5)), (8, (some v7_1))] (And.intro rfl (And.intro rfl (And.intro rfl True.intro))) (next ((some a0), (some v10_5), ()) _ _ H)
    · refine OJ.no rfl rfl rfl g rfl rfl ?_
      refine OJ.no rfl rfl rfl g rfl rfl ?_
      exact OJ.weaken [(9, none), (10, none), (8, (some v7_1))] (And.intro rfl (And.intro rfl (And.intro rfl True.intro))) (next (none, none, ()) _ _ H)

/-! 58 -/
noncomputable def H58_j2 (k : KV)  (a0_3 : Value) (a4_3 : Value) (h : Heap) (nx : Nat) : Bool :=
  binK Tryz.prog .add 3 (.tmp 23) (.const (.int .i64 (.ofNat 1))) a0_3 (.int .i64 (.ofNat 1)) fun v24_4 =>
  hBuild Tryz.prog 48 [(0, a0_3), (2, v24_4)] fun v25_5 =>
  storeK Tryz.prog 48 a4_3 v25_5 h fun h6 =>
  loadK Tryz.prog 48 a4_3 h6 fun r7 => hNT (.int .i64 (.ofNat 0)) fun _ => k (resV [r7, (.int .i64 (.ofNat 0))]) h6 nx
noncomputable def H58_g11 (k : KV)  (a0 : Value) (a1 : Value) (v4_1 : Value) (v9_10 : Value) (o11_12 : Option Value) (o12_12 : Option Value) (o13_12 : Option Value) (h : Heap) (nx : Nat) : Bool :=
  hPick v9_10 (some (.bool true)) o13_12 fun v14_13 =>
  hIf v14_13 (fun _ => false) (fun _ => binK Tryz.prog .geq 3 (.tmp 17) (.tmp 18) a0 a1 fun v19_14 =>
  hIf v19_14 (fun _ => false) (fun _ => H58_j2 k  a0 v4_1 h nx))
noncomputable def H58 (a0 : Value) (a1 : Value) (h : Heap) (nx : Nat) (k : KV) : Bool :=
  hAlloc Tryz.prog 48 h nx fun v4_1 h1 nx1 =>
  H96 a0 (.int .i64 (.ofNat 0)) h1 nx1 fun v8_9 h9 nx9 =>
  hUn Tryz.prog .not v8_9 fun v9_10 =>
  hG (some v9_10) false (fun _ => H96 a1 (.int .i64 (.ofNat 1)) h9 nx9 fun v12_15 h15 nx15 =>
  hUn Tryz.prog .not v12_15 fun v13_16 =>
  H58_g11 k  a0 a1 v4_1 v9_10 (some a1) (some v12_15) (some v13_16) h15 nx15) (fun _ => H58_g11 k  a0 a1 v4_1 v9_10 none none none h9 nx9)
theorem sim58 {a0 a1 : Value} {h : Heap} {nx : Nat} {k : KV} (H : H58 a0 a1 h nx k = true) : ∃ v h' nx', k v h' nx' = true ∧ CallSim Tryz.prog 58 [a0, a1] h nx v h' nx' := by
  refine fn_rule Tryz.func58 rfl rfl ?_
  refine CJ.seq ?_
  refine CJ.region ?_
  refine OJ.fu rfl rfl rfl (r_alloc1 rfl H) ?_
  intro v4_1 h1 nx1 H
  refine OJ.mv rfl rfl rfl (r_assign rfl rfl) ?_
  refine OJ.fin ?_
  refine CJ.seq (CJ.cut (X := Value × Value × Unit) (fun x h nx => H58_j2 k  x.1 x.2.1 h nx) (fun x => [(0, some x.1), (4, some x.2.1)]) ?_ ?_)
  · refine CJ.block ?_
    refine CJ.seq ?_
    refine CJ.region ?_
    refine OJ.mv rfl rfl rfl (r_move rfl rfl) ?_
    refine OJ.fu rfl rfl rfl (r_call (args := [a0, (.int .i64 (.ofNat 0))]) rfl rfl rfl (And.intro rfl (And.intro rfl True.intro)) Tryz.call96 (sim96 H)) ?_
    intro v8_9 h9 nx9 H
    refine OJ.rd rfl rfl rfl (r_un rfl rfl H) ?_
    intro v9_10 H
    refine OJ.mv rfl rfl rfl (r_move rfl rfl) ?_
    refine OJ.cut (X := Option Value × Option Value × Option Value × Unit) 3 (fun x h nx => H58_g11 k  a0 a1 v4_1 v9_10 x.1 x.2.1 x.2.2.1 h nx) (fun x => [(11, x.1), (12, x.2.1), (13, x.2.2.1), (0, (some a0)), (1, (some a1)), (4, (some v4_1)), (10, (some v9_10))]) ?_ (fun next => ?_)
    · intro ⟨o11_12, o12_12, o13_12, _u⟩ h nx H
      refine OJ.rd rfl rfl rfl (r_pick rfl rfl rfl rfl H) ?_
      intro v14_13 H
      refine OJ.mv rfl rfl rfl (r_assign rfl rfl) ?_
      refine OJ.fin ?_
      refine CJ.ite rfl H (fun H => ?_) (fun H => ?_)
      · cases H
      · refine CJ.seq ?_
        refine CJ.region ?_
        refine OJ.mv rfl rfl rfl (r_move rfl rfl) ?_
        refine OJ.mv rfl rfl rfl (r_move rfl rfl) ?_
        refine OJ.rd rfl rfl rfl (r_bin rfl rfl rfl H) ?_
        intro v19_14 H
        refine OJ.mv rfl rfl rfl (r_assign rfl rfl) ?_
        refine OJ.fin ?_
        refine CJ.ite rfl H (fun H => ?_) (fun H => ?_)
        · cases H
        · exact CJ.skip [(0, (some a0)), (4, (some v4_1))] (And.intro rfl (And.intro rfl True.intro)) (Exists.intro (a0, v4_1, ()) (And.intro rfl H))
    · rcases hG_true H with ⟨g, H⟩ | ⟨g, H⟩
      · refine OJ.gmv rfl rfl rfl g rfl rfl (r_move rfl rfl) ?_
        refine OJ.gfu rfl rfl rfl g rfl rfl (r_call (args := [a1, (.int .i64 (.ofNat 1))]) rfl rfl rfl (And.intro rfl (And.intro rfl True.intro)) Tryz.call96 (sim96 H)) ?_
        intro v12_15 h15 nx15 H
        refine OJ.grd rfl rfl rfl g rfl rfl (r_un rfl rfl H) ?_
        intro v13_16 H
        exact OJ.weaken [(11, (some a1)), (12, (some v12_15)), (13, (some v13_16)), (0, (some a0)), (1, (some a1)), (4, (some v4_1)), (10, (some v9_10))] (And.intro rfl (And.intro rfl (And.intro rfl (And.intro rfl (And.intro rfl (And.intro rfl (And.intro rfl True.intro))))))) (next ((some a1), (some v12_15), (some v13_16), ()) _ _ H)
      · refine OJ.no rfl rfl rfl g rfl rfl ?_
        refine OJ.no rfl rfl rfl g rfl rfl ?_
        refine OJ.no rfl rfl rfl g rfl rfl ?_
        exact OJ.weaken [(11, none), (12, none), (13, none), (0, (some a0)), (1, (some a1)), (4, (some v4_1)), (10, (some v9_10))] (And.intro rfl (And.intro rfl (And.intro rfl (And.intro rfl (And.intro rfl (And.intro rfl (And.intro rfl True.intro))))))) (next (none, none, none, ()) _ _ H)
  · intro ⟨a0_3, a4_3, _u⟩ h nx H
    refine CJ.seq ?_
    refine CJ.region ?_
    refine OJ.mv rfl rfl rfl (r_move rfl rfl) ?_
    refine OJ.mv rfl rfl rfl (r_move rfl rfl) ?_
    refine OJ.rd rfl rfl rfl (r_bin rfl rfl rfl H) ?_
    intro v24_4 H
    refine OJ.rd rfl rfl rfl (r_build (vs := [(0, a0_3), (2, v24_4)]) rfl (And.intro rfl (And.intro rfl (And.intro rfl (And.intro rfl True.intro)))) H) ?_
    intro v25_5 H
    refine OJ.wr rfl rfl (r_store rfl rfl rfl H) ?_
    intro h6 H
    refine OJ.mv rfl rfl rfl (r_assign rfl rfl) ?_
    refine OJ.fin ?_
    refine CJ.ret1 ?_
    obtain ⟨r7, H, l7⟩ := load_val H
    obtain ⟨n8, H⟩ := hNT_true H
    exact ret_gen (vs := [r7, (.int .i64 (.ofNat 0))]) (Or.inr rfl) (And.intro (Exists.intro a4_3 (And.intro rfl l7)) (And.intro rfl (And.intro n8 True.intro))) H

/-! 29 -/
noncomputable def H29 (a0 : Value) (h : Heap) (nx : Nat) (k : KV) : Bool :=
  hAlloc Tryz.prog 55 h nx fun v2_1 h1 nx1 =>
  H58 (.int .i64 (.ofNat 0)) a0 h1 nx1 fun v8_2 h2 nx2 =>
  hExtract v8_2 0 fun v9_3 =>
  hExtract v8_2 1 fun v10_4 =>
  hAlloc Tryz.prog 48 h2 nx2 fun v4_5 h5 nx5 =>
  storeK Tryz.prog 48 v4_5 v9_3 h5 fun h6 =>
  loadK Tryz.prog 48 v4_5 h6 fun v11_7 =>
  hBuild Tryz.prog 55 [(0, v11_7)] fun v12_8 =>
  storeK Tryz.prog 55 v2_1 v12_8 h6 fun h9 =>
  loadK Tryz.prog 55 v2_1 h9 fun r10 => hNT v10_4 fun _ => k (resV [r10, v10_4]) h9 nx5
theorem sim29 {a0 : Value} {h : Heap} {nx : Nat} {k : KV} (H : H29 a0 h nx k = true) : ∃ v h' nx', k v h' nx' = true ∧ CallSim Tryz.prog 29 [a0] h nx v h' nx' := by
  refine fn_rule Tryz.func29 rfl rfl ?_
  refine CJ.seq ?_
  refine CJ.region ?_
  refine OJ.fu rfl rfl rfl (r_alloc1 rfl H) ?_
  intro v2_1 h1 nx1 H
  refine OJ.mv rfl rfl rfl (r_assign rfl rfl) ?_
  refine OJ.fin ?_
  refine CJ.seq ?_
  refine CJ.region ?_
  refine OJ.mv rfl rfl rfl (r_move rfl rfl) ?_
  refine OJ.fu rfl rfl rfl (r_call (args := [(.int .i64 (.ofNat 0)), a0]) rfl rfl rfl (And.intro rfl (And.intro rfl True.intro)) Tryz.call58 (sim58 H)) ?_
  intro v8_2 h2 nx2 H
  refine OJ.mv rfl rfl rfl (r_move rfl rfl) ?_
  refine OJ.rd rfl rfl rfl (r_extract rfl rfl H) ?_
  intro v9_3 H
  refine OJ.rd rfl rfl rfl (r_extract rfl rfl H) ?_
  intro v10_4 H
  refine OJ.fu rfl rfl rfl (r_alloc1 rfl H) ?_
  intro v4_5 h5 nx5 H
  refine OJ.wr rfl rfl (r_store rfl rfl rfl H) ?_
  intro h6 H
  refine OJ.mv rfl rfl rfl (r_assign rfl rfl) ?_
  refine OJ.fin ?_
  refine CJ.seq ?_
  refine CJ.region ?_
  refine OJ.rd rfl rfl rfl (r_load rfl rfl H) ?_
  intro v11_7 H
  refine OJ.rd rfl rfl rfl (r_build (vs := [(0, v11_7)]) rfl (And.intro rfl (And.intro rfl True.intro)) H) ?_
  intro v12_8 H
  refine OJ.mv rfl rfl rfl (r_move rfl rfl) ?_
  refine OJ.wr rfl rfl (r_store rfl rfl rfl H) ?_
  intro h9 H
  refine OJ.mv rfl rfl rfl (r_assign rfl rfl) ?_
  refine OJ.fin ?_
  refine CJ.ret1 ?_
  obtain ⟨r10, H, l10⟩ := load_val H
  obtain ⟨n11, H⟩ := hNT_true H
  exact ret_gen (vs := [r10, v10_4]) (Or.inr rfl) (And.intro (Exists.intro v2_1 (And.intro rfl l10)) (And.intro rfl (And.intro n11 True.intro))) H

/-! 140 -/
noncomputable def H140_j3 (k : KV)   (h : Heap) (nx : Nat) : Bool :=
  k (.bool true) h nx
noncomputable def H140_j9 (k : KV) (ih6 : Value → Value → Heap → Nat → Bool)  (h : Heap) (nx : Nat) : Bool :=
  false
noncomputable def H140_l6 (k : KV)  (n : Nat) : Value → Value → Heap → Nat → Bool :=
  Nat.rec (motive := fun _ => Value → Value → Heap → Nat → Bool) (fun _ _ _ _ => false) (fun _ ih6 a16_7 a17_7 h nx => binK Tryz.prog .lss 3 (.tmp 17) (.tmp 16) a17_7 a16_7 fun v18_8 =>
  hIf v18_8 (fun _ => false) (fun _ => H140_j3 k   h nx)) n
noncomputable def H140_j1 (k : KV)  (a0_2 : Value) (h : Heap) (nx : Nat) : Bool :=
  lenK Tryz.prog 49 a0_2 h fun v16_5 =>
  H140_l6 k  200000 v16_5 (.int .i64 (.ofNat 0)) h nx
noncomputable def H140 (a0 : Value) (a1 : Value) (a2 : Value) (h : Heap) (nx : Nat) (k : KV) : Bool :=
  lenK Tryz.prog 49 a0 h fun v11_11 =>
  lenK Tryz.prog 49 a1 h fun v13_12 =>
  binK Tryz.prog .neq 3 (.tmp 11) (.tmp 13) v11_11 v13_12 fun v14_13 =>
  hIf v14_13 (fun _ => false) (fun _ => H140_j1 k  a0 h nx)
theorem sim140 {a0 a1 a2 : Value} {h : Heap} {nx : Nat} {k : KV} (H : H140 a0 a1 a2 h nx k = true) : ∃ v h' nx', k v h' nx' = true ∧ CallSim Tryz.prog 140 [a0, a1, a2] h nx v h' nx' := by
  refine fn_rule Tryz.func140 rfl rfl ?_
  refine CJ.seq ?_
  refine CJ.region ?_
  refine OJ.mv rfl rfl rfl (r_assign rfl rfl) ?_
  refine OJ.fin ?_
  refine CJ.seq (CJ.cut (X := Value × Unit) (fun x h nx => H140_j1 k  x.1 h nx) (fun x => [(0, some x.1)]) ?_ ?_)
  · refine CJ.seq ?_
    refine CJ.region ?_
    refine OJ.mv rfl rfl rfl (r_move rfl rfl) ?_
    refine OJ.rd rfl rfl rfl (r_len (x := default) rfl rfl (And.intro rfl True.intro) rfl H) ?_
    intro v11_11 H
    refine OJ.mv rfl rfl rfl (r_move rfl rfl) ?_
    refine OJ.rd rfl rfl rfl (r_len (x := default) rfl rfl (And.intro rfl True.intro) rfl H) ?_
    intro v13_12 H
    refine OJ.rd rfl rfl rfl (r_bin rfl rfl rfl H) ?_
    intro v14_13 H
    refine OJ.fin ?_
    refine CJ.ite rfl H (fun H => ?_) (fun H => ?_)
    · cases H
    · exact CJ.skip [(0, (some a0))] (And.intro rfl True.intro) (Exists.intro (a0, ()) (And.intro rfl H))
  · intro ⟨a0_2, _u⟩ h nx H
    refine CJ.seq (CJ.cut (X := Unit) (fun x h nx => H140_j3 k   h nx) (fun x => []) ?_ ?_)
    · refine CJ.seq ?_
      refine CJ.region ?_
      refine OJ.mv rfl rfl rfl (r_move rfl rfl) ?_
      refine OJ.rd rfl rfl rfl (r_len (x := default) rfl rfl (And.intro rfl True.intro) rfl H) ?_
      intro v16_5 H
      refine OJ.mv rfl rfl rfl (r_move rfl rfl) ?_
      refine OJ.fin ?_
      refine CJ.block ?_
      refine CJ.weaken [(16, (some v16_5)), (17, (some (.int .i64 (.ofNat 0))))] (And.intro rfl (And.intro rfl True.intro)) ?_
      refine CJ.loop_ind (X := Value × Value × Unit) (fun n x h nx => H140_l6 k  n x.1 x.2.1 h nx) (fun x => [(16, some x.1), (17, some x.2.1)]) (fun _ _ _ => rfl) ?_ 200000 (v16_5, (.int .i64 (.ofNat 0)), ()) _ _ H
      intro ih6n ih6p ⟨a16_7, a17_7, _u⟩ h nx H
      let ih6 := H140_l6 k  ih6n
      refine CJ.seq ?_
      refine CJ.region ?_
      refine OJ.rd rfl rfl rfl (r_bin rfl rfl rfl H) ?_
      intro v18_8 H
      refine OJ.fin ?_
      refine CJ.seq (CJ.cut (X := Unit) (fun x h nx => H140_j9 k ih6  h nx) (fun x => []) ?_ ?_)
      · refine CJ.ite rfl H (fun H => ?_) (fun H => ?_)
        · cases H
        · exact CJ.exit [] True.intro (Exists.intro () (And.intro rfl H))
      · intro _u h nx H
        cases H
    · intro _u h nx H
      refine CJ.seq ?_
      refine CJ.region ?_
      refine OJ.mv rfl rfl rfl (r_assign rfl rfl) ?_
      refine OJ.fin ?_
      refine CJ.ret1 ?_
      exact ret_one (Or.inr rfl) rfl rfl H

/-! 97 -/
noncomputable def H97_g14 (k : KV)  (v23_13 : Value) (o25_15 : Option Value) (o26_15 : Option Value) (o27_15 : Option Value) (o28_15 : Option Value) (o29_15 : Option Value) (h : Heap) (nx : Nat) : Bool :=
  hPick v23_13 o29_15 (some (.bool false)) fun v30_16 =>
  k v30_16 h nx
noncomputable def H97_g11 (k : KV)  (v2_1 : Value) (v3_2 : Value) (v16_10 : Value) (o18_12 : Option Value) (o19_12 : Option Value) (o20_12 : Option Value) (o21_12 : Option Value) (o22_12 : Option Value) (h : Heap) (nx : Nat) : Bool :=
  hPick v16_10 o22_12 (some (.bool false)) fun v23_13 =>
  hG (some v23_13) true (fun _ => hFieldAddr Tryz.prog 51 v2_1 2 fun v25_17 =>
  loadK Tryz.prog 49 v25_17 h fun v26_18 =>
  hFieldAddr Tryz.prog 51 v3_2 2 fun v27_19 =>
  loadK Tryz.prog 49 v27_19 h fun v28_20 =>
  H140 v26_18 v28_20 (.func (.func 141) ⟨[]⟩ ⟨[]⟩) h nx fun v29_21 h21 nx21 =>
  H97_g14 k  v23_13 (some v25_17) (some v26_18) (some v27_19) (some v28_20) (some v29_21) h21 nx21) (fun _ => H97_g14 k  v23_13 none none none none none h nx)
noncomputable def H97_g8 (k : KV)  (v2_1 : Value) (v3_2 : Value) (v9_7 : Value) (o11_9 : Option Value) (o12_9 : Option Value) (o13_9 : Option Value) (o14_9 : Option Value) (o15_9 : Option Value) (h : Heap) (nx : Nat) : Bool :=
  hPick v9_7 o15_9 (some (.bool false)) fun v16_10 =>
  hG (some v16_10) true (fun _ => hFieldAddr Tryz.prog 51 v2_1 3 fun v18_22 =>
  loadK Tryz.prog 3 v18_22 h fun v19_23 =>
  hFieldAddr Tryz.prog 51 v3_2 3 fun v20_24 =>
  loadK Tryz.prog 3 v20_24 h fun v21_25 =>
  binK Tryz.prog .eql 3 (.tmp 19) (.tmp 21) v19_23 v21_25 fun v22_26 =>
  H97_g11 k  v2_1 v3_2 v16_10 (some v18_22) (some v19_23) (some v20_24) (some v21_25) (some v22_26) h nx) (fun _ => H97_g11 k  v2_1 v3_2 v16_10 none none none none none h nx)
noncomputable def H97 (a0 : Value) (a1 : Value) (h : Heap) (nx : Nat) (k : KV) : Bool :=
  hBox a0 h nx fun v2_1 h1 nx1 =>
  hBox a1 h1 nx1 fun v3_2 h2 nx2 =>
  hFieldAddr Tryz.prog 51 v2_1 0 fun v5_3 =>
  loadK Tryz.prog 3 v5_3 h2 fun v6_4 =>
  hFieldAddr Tryz.prog 51 v3_2 0 fun v7_5 =>
  loadK Tryz.prog 3 v7_5 h2 fun v8_6 =>
  binK Tryz.prog .eql 3 (.tmp 6) (.tmp 8) v6_4 v8_6 fun v9_7 =>
  hG (some v9_7) true (fun _ => hFieldAddr Tryz.prog 51 v2_1 1 fun v11_27 =>
  loadK Tryz.prog 3 v11_27 h2 fun v12_28 =>
  hFieldAddr Tryz.prog 51 v3_2 1 fun v13_29 =>
  loadK Tryz.prog 3 v13_29 h2 fun v14_30 =>
  binK Tryz.prog .eql 3 (.tmp 12) (.tmp 14) v12_28 v14_30 fun v15_31 =>
  H97_g8 k  v2_1 v3_2 v9_7 (some v11_27) (some v12_28) (some v13_29) (some v14_30) (some v15_31) h2 nx2) (fun _ => H97_g8 k  v2_1 v3_2 v9_7 none none none none none h2 nx2)
theorem sim97 {a0 a1 : Value} {h : Heap} {nx : Nat} {k : KV} (H : H97 a0 a1 h nx k = true) : ∃ v h' nx', k v h' nx' = true ∧ CallSim Tryz.prog 97 [a0, a1] h nx v h' nx' := by
  refine fn_rule Tryz.func97 rfl rfl ?_
  refine CJ.seq ?_
  refine CJ.region ?_
  refine OJ.fu rfl rfl rfl (r_box rfl rfl H) ?_
  intro v2_1 h1 nx1 H
  refine OJ.fu rfl rfl rfl (r_box rfl rfl H) ?_
  intro v3_2 h2 nx2 H
  refine OJ.mv rfl rfl rfl (r_assign rfl rfl) ?_
  refine OJ.fin ?_
  refine CJ.seq ?_
  refine CJ.region ?_
  refine OJ.rd rfl rfl rfl (r_fieldAddr rfl rfl H) ?_
  intro v5_3 H
  refine OJ.rd rfl rfl rfl (r_load rfl rfl H) ?_
  intro v6_4 H
  refine OJ.rd rfl rfl rfl (r_fieldAddr rfl rfl H) ?_
  intro v7_5 H
  refine OJ.rd rfl rfl rfl (r_load rfl rfl H) ?_
  intro v8_6 H
  refine OJ.rd rfl rfl rfl (r_bin rfl rfl rfl H) ?_
  intro v9_7 H
  refine OJ.mv rfl rfl rfl (r_move rfl rfl) ?_
  refine OJ.cut (X := Option Value × Option Value × Option Value × Option Value × Option Value × Unit) 5 (fun x h nx => H97_g8 k  v2_1 v3_2 v9_7 x.1 x.2.1 x.2.2.1 x.2.2.2.1 x.2.2.2.2.1 h nx) (fun x => [(11, x.1), (12, x.2.1), (13, x.2.2.1), (14, x.2.2.2.1), (15, x.2.2.2.2.1), (2, (some v2_1)), (3, (some v3_2)), (10, (some v9_7))]) ?_ (fun next => ?_)
  · intro ⟨o11_9, o12_9, o13_9, o14_9, o15_9, _u⟩ h nx H
    refine OJ.rd rfl rfl rfl (r_pick rfl rfl rfl rfl H) ?_
    intro v16_10 H
    refine OJ.mv rfl rfl rfl (r_move rfl rfl) ?_
    refine OJ.cut (X := Option Value × Option Value × Option Value × Option Value × Option Value × Unit) 5 (fun x h nx => H97_g11 k  v2_1 v3_2 v16_10 x.1 x.2.1 x.2.2.1 x.2.2.2.1 x.2.2.2.2.1 h nx) (fun x => [(18, x.1), (19, x.2.1), (20, x.2.2.1), (21, x.2.2.2.1), (22, x.2.2.2.2.1), (2, (some v2_1)), (3, (some v3_2)), (17, (some v16_10))]) ?_ (fun next => ?_)
    · intro ⟨o18_12, o19_12, o20_12, o21_12, o22_12, _u⟩ h nx H
      refine OJ.rd rfl rfl rfl (r_pick rfl rfl rfl rfl H) ?_
      intro v23_13 H
      refine OJ.mv rfl rfl rfl (r_move rfl rfl) ?_
      refine OJ.cut (X := Option Value × Option Value × Option Value × Option Value × Option Value × Unit) 5 (fun x h nx => H97_g14 k  v23_13 x.1 x.2.1 x.2.2.1 x.2.2.2.1 x.2.2.2.2.1 h nx) (fun x => [(25, x.1), (26, x.2.1), (27, x.2.2.1), (28, x.2.2.2.1), (29, x.2.2.2.2.1), (24, (some v23_13))]) ?_ (fun next => ?_)
      · intro ⟨o25_15, o26_15, o27_15, o28_15, o29_15, _u⟩ h nx H
        refine OJ.rd rfl rfl rfl (r_pick rfl rfl rfl rfl H) ?_
        intro v30_16 H
        refine OJ.mv rfl rfl rfl (r_assign rfl rfl) ?_
        refine OJ.fin ?_
        refine CJ.ret1 ?_
        exact ret_one (Or.inr rfl) rfl rfl H
      · rcases hG_true H with ⟨g, H⟩ | ⟨g, H⟩
        · refine OJ.grd rfl rfl rfl g rfl rfl (r_fieldAddr rfl rfl H) ?_
          intro v25_17 H
          refine OJ.grd rfl rfl rfl g rfl rfl (r_load rfl rfl H) ?_
          intro v26_18 H
          refine OJ.grd rfl rfl rfl g rfl rfl (r_fieldAddr rfl rfl H) ?_
          intro v27_19 H
          refine OJ.grd rfl rfl rfl g rfl rfl (r_load rfl rfl H) ?_
          intro v28_20 H
          refine OJ.gfu rfl rfl rfl g rfl rfl (r_call (args := [v26_18, v28_20, (.func (.func 141) ⟨[]⟩ ⟨[]⟩)]) rfl rfl rfl (And.intro rfl (And.intro rfl (And.intro rfl True.intro))) Tryz.call140 (sim140 H)) ?_
          intro v29_21 h21 nx21 H
          exact OJ.weaken [(25, (some v25_17)), (26, (some v26_18)), (27, (some v27_19)), (28, (some v28_20)), (29, (some v29_21)), (24, (some v23_13))] (And.intro rfl (And.intro rfl (And.intro rfl (And.intro rfl (And.intro rfl (And.intro rfl True.intro)))))) (next ((some v25_17), (some v26_18), (some v27_19), (some v28_20), (some v29_21), ()) _ _ H)
        · refine OJ.no rfl rfl rfl g rfl rfl ?_
          refine OJ.no rfl rfl rfl g rfl rfl ?_
          refine OJ.no rfl rfl rfl g rfl rfl ?_
          refine OJ.no rfl rfl rfl g rfl rfl ?_
          refine OJ.no rfl rfl rfl g rfl rfl ?_
          exact OJ.weaken [(25, none), (26, none), (27, none), (28, none), (29, none), (24, (some v23_13))] (And.intro rfl (And.intro rfl (And.intro rfl (And.intro rfl (And.intro rfl (And.intro rfl True.intro)))))) (next (none, none, none, none, none, ()) _ _ H)
    · rcases hG_true H with ⟨g, H⟩ | ⟨g, H⟩
      · refine OJ.grd rfl rfl rfl g rfl rfl (r_fieldAddr rfl rfl H) ?_
        intro v18_22 H
        refine OJ.grd rfl rfl rfl g rfl rfl (r_load rfl rfl H) ?_
        intro v19_23 H
        refine OJ.grd rfl rfl rfl g rfl rfl (r_fieldAddr rfl rfl H) ?_
        intro v20_24 H
        refine OJ.grd rfl rfl rfl g rfl rfl (r_load rfl rfl H) ?_
        intro v21_25 H
        refine OJ.grd rfl rfl rfl g rfl rfl (r_bin rfl rfl rfl H) ?_
        intro v22_26 H
        exact OJ.weaken [(18, (some v18_22)), (19, (some v19_23)), (20, (some v20_24)), (21, (some v21_25)), (22, (some v22_26)), (2, (some v2_1)), (3, (some v3_2)), (17, (some v16_10))] (And.intro rfl (And.intro rfl (And.intro rfl (And.intro rfl (And.intro rfl (And.intro rfl (And.intro rfl (And.intro rfl True.intro)))))))) (next ((some v18_22), (some v19_23), (some v20_24), (some v21_25), (some v22_26), ()) _ _ H)
      · refine OJ.no rfl rfl rfl g rfl rfl ?_
        refine OJ.no rfl rfl rfl g rfl rfl ?_
        refine OJ.no rfl rfl rfl g rfl rfl ?_
        refine OJ.no rfl rfl rfl g rfl rfl ?_
        refine OJ.no rfl rfl rfl g rfl rfl ?_
        exact OJ.weaken [(18, none), (19, none), (20, none), (21, none), (22, none), (2, (some v2_1)), (3, (some v3_2)), (17, (some v16_10))] (And.intro rfl (And.intro rfl (And.intro rfl (And.intro rfl (And.intro rfl (And.intro rfl (And.intro rfl (And.intro rfl True.intro)))))))) (next (none, none, none, none, none, ()) _ _ H)
  · rcases hG_true H with ⟨g, H⟩ | ⟨g, H⟩
    · refine OJ.grd rfl rfl rfl g rfl rfl (r_fieldAddr rfl rfl H) ?_
      intro v11_27 H
      refine OJ.grd rfl rfl rfl g rfl rfl (r_load rfl rfl H) ?_
      intro v12_28 H
      refine OJ.grd rfl rfl rfl g rfl rfl (r_fieldAddr rfl rfl H) ?_
      intro v13_29 H
      refine OJ.grd rfl rfl rfl g rfl rfl (r_load rfl rfl H) ?_
      intro v14_30 H
      refine OJ.grd rfl rfl rfl g rfl rfl (r_bin rfl rfl rfl H) ?_
      intro v15_31 H
      exact OJ.weaken [(11, (some v11_27)), (12, (some v12_28)), (13, (some v13_29)), (14, (some v14_30)), (15, (some v15_31)), (2, (some v2_1)), (3, (some v3_2)), (10, (some v9_7))] (And.intro rfl (And.intro rfl (And.intro rfl (And.intro rfl (And.intro rfl (And.intro rfl (And.intro rfl (And.intro rfl True.intro)))))))) (next ((some v11_27), (some v12_28), (some v13_29), (some v14_30), (some v15_31), ()) _ _ H)
    · refine OJ.no rfl rfl rfl g rfl rfl ?_
      refine OJ.no rfl rfl rfl g rfl rfl ?_
      refine OJ.no rfl rfl rfl g rfl rfl ?_
      refine OJ.no rfl rfl rfl g rfl rfl ?_
      refine OJ.no rfl rfl rfl g rfl rfl ?_
      exact OJ.weaken [(11, none), (12, none), (13, none), (14, none), (15, none), (2, (some v2_1)), (3, (some v3_2)), (10, (some v9_7))] (And.intro rfl (And.intro rfl (And.intro rfl (And.intro rfl (And.intro rfl (And.intro rfl (And.intro rfl (And.intro rfl True.intro)))))))) (next (none, none, none, none, none, ()) _ _ H)

/-! 98 -/
noncomputable def H98_j37 (k : KV)   (h : Heap) (nx : Nat) : Bool :=
  k (.int .i64 (.ofNat 0)) h nx
noncomputable def H98_g51 (k : KV)  (v61_42 : Value) (o72_52 : Option Value) (h : Heap) (nx : Nat) : Bool :=
  hPick v61_42 (some (.bool true)) o72_52 fun v73_53 =>
  hIf v73_53 (fun _ => false) (fun _ => H98_j37 k   h nx)
noncomputable def H98_g49 (k : KV)  (v61_42 : Value) (o69_48 : Option Value) (o70_50 : Option Value) (o71_50 : Option Value) (h : Heap) (nx : Nat) : Bool :=
  hG (some v61_42) false (fun _ => optK o69_48 fun v69_54 =>
  hPick v69_54 o71_50 (some (.bool false)) fun v72_55 =>
  H98_g51 k  v61_42 (some v72_55) h nx) (fun _ => H98_g51 k  v61_42 none h nx)
noncomputable def H98_g47 (k : KV)  (v57_36 : Value) (v61_42 : Value) (o68_48 : Option Value) (o69_48 : Option Value) (h : Heap) (nx : Nat) : Bool :=
  hG o69_48 true (fun _ => false) (fun _ => H98_g49 k  v61_42 o69_48 none none h nx)
noncomputable def H98_g45 (k : KV)  (v57_36 : Value) (v61_42 : Value) (o65_44 : Option Value) (o66_46 : Option Value) (o67_46 : Option Value) (h : Heap) (nx : Nat) : Bool :=
  hG (some v61_42) false (fun _ => optK o65_44 fun v65_56 =>
  hPick v65_56 o67_46 (some (.bool false)) fun v68_57 =>
  H98_g47 k  v57_36 v61_42 (some v68_57) (some v68_57) h nx) (fun _ => H98_g47 k  v57_36 v61_42 none none h nx)
noncomputable def H98_g43 (k : KV)  (v45_27 : Value) (v57_36 : Value) (v61_42 : Value) (o63_44 : Option Value) (o64_44 : Option Value) (o65_44 : Option Value) (h : Heap) (nx : Nat) : Bool :=
  hG o65_44 true (fun _ => hUn Tryz.prog .not v45_27 fun v67_58 =>
  H98_g45 k  v57_36 v61_42 o65_44 (some v45_27) (some v67_58) h nx) (fun _ => H98_g45 k  v57_36 v61_42 o65_44 none none h nx)
noncomputable def H98_g34 (k : KV)  (v1_1 : Value) (v25_15 : Value) (v45_27 : Value) (v53_33 : Value) (o55_35 : Option Value) (o56_35 : Option Value) (h : Heap) (nx : Nat) : Bool :=
  hPick v53_33 o56_35 (some (.bool false)) fun v57_36 =>
  hFieldAddr Tryz.prog 48 v1_1 0 fun v58_39 =>
  loadK Tryz.prog 3 v58_39 h fun v59_40 =>
  H96 v59_40 (.int .i64 (.ofNat 0)) h nx fun v60_41 h41 nx41 =>
  hUn Tryz.prog .not v60_41 fun v61_42 =>
  hG (some v61_42) false (fun _ => hUn Tryz.prog .not v25_15 fun v64_59 =>
  H98_g43 k  v45_27 v57_36 v61_42 (some v25_15) (some v64_59) (some v64_59) h41 nx41) (fun _ => H98_g43 k  v45_27 v57_36 v61_42 none none none h41 nx41)
noncomputable def H98_g31 (k : KV)  (v1_1 : Value) (v25_15 : Value) (v45_27 : Value) (v48_30 : Value) (o50_32 : Option Value) (o51_32 : Option Value) (o52_32 : Option Value) (h : Heap) (nx : Nat) : Bool :=
  hPick v48_30 o52_32 (some (.bool false)) fun v53_33 =>
  hG (some v53_33) true (fun _ => false) (fun _ => H98_g34 k  v1_1 v25_15 v45_27 v53_33 none none h nx)
noncomputable def H98_g25 (k : KV)  (v1_1 : Value) (v25_15 : Value) (v40_24 : Value) (o42_26 : Option Value) (o43_26 : Option Value) (o44_26 : Option Value) (h : Heap) (nx : Nat) : Bool :=
  hPick v40_24 o44_26 (some (.bool false)) fun v45_27 =>
  hFieldAddr Tryz.prog 48 v1_1 1 fun v46_28 =>
  loadK Tryz.prog 3 v46_28 h fun v47_29 =>
  binK Tryz.prog .eql 3 (.tmp 47) (.const (.int .i64 (.ofNat 0))) v47_29 (.int .i64 (.ofNat 0)) fun v48_30 =>
  hG (some v48_30) true (fun _ => hFieldAddr Tryz.prog 48 v1_1 2 fun v50_60 =>
  loadK Tryz.prog 3 v50_60 h fun v51_61 =>
  binK Tryz.prog .eql 3 (.tmp 51) (.const (.int .i64 (.ofNat 0))) v51_61 (.int .i64 (.ofNat 0)) fun v52_62 =>
  H98_g31 k  v1_1 v25_15 v45_27 v48_30 (some v50_60) (some v51_61) (some v52_62) h nx) (fun _ => H98_g31 k  v1_1 v25_15 v45_27 v48_30 none none none h nx)
noncomputable def H98_g22 (k : KV)  (v1_1 : Value) (v25_15 : Value) (v35_21 : Value) (o37_23 : Option Value) (o38_23 : Option Value) (o39_23 : Option Value) (h : Heap) (nx : Nat) : Bool :=
  hPick v35_21 o39_23 (some (.bool false)) fun v40_24 =>
  hG (some v40_24) true (fun _ => hFieldAddr Tryz.prog 48 v1_1 3 fun v42_63 =>
  loadK Tryz.prog 4 v42_63 h fun v43_64 =>
  hUn Tryz.prog .not v43_64 fun v44_65 =>
  H98_g25 k  v1_1 v25_15 v40_24 (some v42_63) (some v43_64) (some v44_65) h nx) (fun _ => H98_g25 k  v1_1 v25_15 v40_24 none none none h nx)
noncomputable def H98_g19 (k : KV)  (v1_1 : Value) (v25_15 : Value) (v28_18 : Value) (o30_20 : Option Value) (o31_20 : Option Value) (o32_20 : Option Value) (o33_20 : Option Value) (o34_20 : Option Value) (h : Heap) (nx : Nat) : Bool :=
  hPick v28_18 o34_20 (some (.bool false)) fun v35_21 =>
  hG (some v35_21) true (fun _ => hFieldAddr Tryz.prog 48 v1_1 2 fun v37_66 =>
  loadK Tryz.prog 3 v37_66 h fun v38_67 =>
  binK Tryz.prog .leq 3 (.tmp 38) (.const (.int .i64 (.ofNat 2147483647))) v38_67 (.int .i64 (.ofNat 2147483647)) fun v39_68 =>
  H98_g22 k  v1_1 v25_15 v35_21 (some v37_66) (some v38_67) (some v39_68) h nx) (fun _ => H98_g22 k  v1_1 v25_15 v35_21 none none none h nx)
noncomputable def H98_g13 (k : KV)  (v1_1 : Value) (v20_12 : Value) (o22_14 : Option Value) (o23_14 : Option Value) (o24_14 : Option Value) (h : Heap) (nx : Nat) : Bool :=
  hPick v20_12 o24_14 (some (.bool false)) fun v25_15 =>
  hFieldAddr Tryz.prog 48 v1_1 1 fun v26_16 =>
  loadK Tryz.prog 3 v26_16 h fun v27_17 =>
  binK Tryz.prog .eql 3 (.tmp 27) (.const (.int .i64 (.ofNat 0))) v27_17 (.int .i64 (.ofNat 0)) fun v28_18 =>
  hG (some v28_18) true (fun _ => hFieldAddr Tryz.prog 48 v1_1 2 fun v30_69 =>
  loadK Tryz.prog 3 v30_69 h fun v31_70 =>
  hFieldAddr Tryz.prog 48 v1_1 0 fun v32_71 =>
  loadK Tryz.prog 3 v32_71 h fun v33_72 =>
  binK Tryz.prog .gtr 3 (.tmp 31) (.tmp 33) v31_70 v33_72 fun v34_73 =>
  H98_g19 k  v1_1 v25_15 v28_18 (some v30_69) (some v31_70) (some v32_71) (some v33_72) (some v34_73) h nx) (fun _ => H98_g19 k  v1_1 v25_15 v28_18 none none none none none h nx)
noncomputable def H98_g10 (k : KV)  (v1_1 : Value) (v15_9 : Value) (o17_11 : Option Value) (o18_11 : Option Value) (o19_11 : Option Value) (h : Heap) (nx : Nat) : Bool :=
  hPick v15_9 o19_11 (some (.bool false)) fun v20_12 =>
  hG (some v20_12) true (fun _ => false) (fun _ => H98_g13 k  v1_1 v20_12 none none none h nx)
noncomputable def H98_g7 (k : KV)  (v1_1 : Value) (v10_6 : Value) (o12_8 : Option Value) (o13_8 : Option Value) (o14_8 : Option Value) (h : Heap) (nx : Nat) : Bool :=
  hPick v10_6 o14_8 (some (.bool false)) fun v15_9 =>
  hG (some v15_9) true (fun _ => false) (fun _ => H98_g10 k  v1_1 v15_9 none none none h nx)
noncomputable def H98 (a0 : Value) (h : Heap) (nx : Nat) (k : KV) : Bool :=
  hBox a0 h nx fun v1_1 h1 nx1 =>
  hFieldAddr Tryz.prog 48 v1_1 1 fun v6_2 =>
  loadK Tryz.prog 3 v6_2 h1 fun v7_3 =>
  hFieldAddr Tryz.prog 48 v1_1 0 fun v8_4 =>
  loadK Tryz.prog 3 v8_4 h1 fun v9_5 =>
  binK Tryz.prog .eql 3 (.tmp 7) (.tmp 9) v7_3 v9_5 fun v10_6 =>
  hG (some v10_6) true (fun _ => hFieldAddr Tryz.prog 48 v1_1 1 fun v12_74 =>
  loadK Tryz.prog 3 v12_74 h1 fun v13_75 =>
  binK Tryz.prog .neq 3 (.tmp 13) (.const (.int .i64 (.ofNat 0))) v13_75 (.int .i64 (.ofNat 0)) fun v14_76 =>
  H98_g7 k  v1_1 v10_6 (some v12_74) (some v13_75) (some v14_76) h1 nx1) (fun _ => H98_g7 k  v1_1 v10_6 none none none h1 nx1)
theorem sim98 {a0 : Value} {h : Heap} {nx : Nat} {k : KV} (H : H98 a0 h nx k = true) : ∃ v h' nx', k v h' nx' = true ∧ CallSim Tryz.prog 98 [a0] h nx v h' nx' := by
  refine fn_rule Tryz.func98 rfl rfl ?_
  refine CJ.seq ?_
  refine CJ.region ?_
  refine OJ.fu rfl rfl rfl (r_box rfl rfl H) ?_
  intro v1_1 h1 nx1 H
  refine OJ.mv rfl rfl rfl (r_assign rfl rfl) ?_
  refine OJ.fin ?_
  refine CJ.seq ?_
  refine CJ.region ?_
  refine OJ.rd rfl rfl rfl (r_fieldAddr rfl rfl H) ?_
  intro v6_2 H
  refine OJ.rd rfl rfl rfl (r_load rfl rfl H) ?_
  intro v7_3 H
  refine OJ.rd rfl rfl rfl (r_fieldAddr rfl rfl H) ?_
  intro v8_4 H
  refine OJ.rd rfl rfl rfl (r_load rfl rfl H) ?_
  intro v9_5 H
  refine OJ.rd rfl rfl rfl (r_bin rfl rfl rfl H) ?_
  intro v10_6 H
  refine OJ.mv rfl rfl rfl (r_move rfl rfl) ?_
  refine OJ.cut (X := Option Value × Option Value × Option Value × Unit) 3 (fun x h nx => H98_g7 k  v1_1 v10_6 x.1 x.2.1 x.2.2.1 h nx) (fun x => [(12, x.1), (13, x.2.1), (14, x.2.2.1), (1, (some v1_1)), (11, (some v10_6))]) ?_ (fun next => ?_)
  · intro ⟨o12_8, o13_8, o14_8, _u⟩ h nx H
    refine OJ.rd rfl rfl rfl (r_pick rfl rfl rfl rfl H) ?_
    intro v15_9 H
    refine OJ.mv rfl rfl rfl (r_move rfl rfl) ?_
    refine OJ.cut (X := Option Value × Option Value × Option Value × Unit) 3 (fun x h nx => H98_g10 k  v1_1 v15_9 x.1 x.2.1 x.2.2.1 h nx) (fun x => [(17, x.1), (18, x.2.1), (19, x.2.2.1), (1, (some v1_1)), (16, (some v15_9))]) ?_ (fun next => ?_)
    · intro ⟨o17_11, o18_11, o19_11, _u⟩ h nx H
      refine OJ.rd rfl rfl rfl (r_pick rfl rfl rfl rfl H) ?_
      intro v20_12 H
      refine OJ.mv rfl rfl rfl (r_move rfl rfl) ?_
      refine OJ.cut (X := Option Value × Option Value × Option Value × Unit) 3 (fun x h nx => H98_g13 k  v1_1 v20_12 x.1 x.2.1 x.2.2.1 h nx) (fun x => [(22, x.1), (23, x.2.1), (24, x.2.2.1), (1, (some v1_1)), (21, (some v20_12))]) ?_ (fun next => ?_)
      · intro ⟨o22_14, o23_14, o24_14, _u⟩ h nx H
        refine OJ.rd rfl rfl rfl (r_pick rfl rfl rfl rfl H) ?_
        intro v25_15 H
        refine OJ.mv rfl rfl rfl (r_assign rfl rfl) ?_
        refine OJ.fin ?_
        refine CJ.seq ?_
        refine CJ.region ?_
        refine OJ.rd rfl rfl rfl (r_fieldAddr rfl rfl H) ?_
        intro v26_16 H
        refine OJ.rd rfl rfl rfl (r_load rfl rfl H) ?_
        intro v27_17 H
        refine OJ.rd rfl rfl rfl (r_bin rfl rfl rfl H) ?_
        intro v28_18 H
        refine OJ.mv rfl rfl rfl (r_move rfl rfl) ?_
        refine OJ.cut (X := Option Value × Option Value × Option Value × Option Value × Option Value × Unit) 5 (fun x h nx => H98_g19 k  v1_1 v25_15 v28_18 x.1 x.2.1 x.2.2.1 x.2.2.2.1 x.2.2.2.2.1 h nx) (fun x => [(30, x.1), (31, x.2.1), (32, x.2.2.1), (33, x.2.2.2.1), (34, x.2.2.2.2.1), (1, (some v1_1)), (3, (some v25_15)), (29, (some v28_18))]) ?_ (fun next => ?_)
        · intro ⟨o30_20, o31_20, o32_20, o33_20, o34_20, _u⟩ h nx H
          refine OJ.rd rfl rfl rfl (r_pick rfl rfl rfl rfl H) ?_
          intro v35_21 H
          refine OJ.mv rfl rfl rfl (r_move rfl rfl) ?_
          refine OJ.cut (X := Option Value × Option Value × Option Value × Unit) 3 (fun x h nx => H98_g22 k  v1_1 v25_15 v35_21 x.1 x.2.1 x.2.2.1 h nx) (fun x => [(37, x.1), (38, x.2.1), (39, x.2.2.1), (1, (some v1_1)), (3, (some v25_15)), (36, (some v35_21))]) ?_ (fun next => ?_)
          · intro ⟨o37_23, o38_23, o39_23, _u⟩ h nx H
            refine OJ.rd rfl rfl rfl (r_pick rfl rfl rfl rfl H) ?_
            intro v40_24 H
            refine OJ.mv rfl rfl rfl (r_move rfl rfl) ?_
            refine OJ.cut (X := Option Value × Option Value × Option Value × Unit) 3 (fun x h nx => H98_g25 k  v1_1 v25_15 v40_24 x.1 x.2.1 x.2.2.1 h nx) (fun x => [(42, x.1), (43, x.2.1), (44, x.2.2.1), (1, (some v1_1)), (3, (some v25_15)), (41, (some v40_24))]) ?_ (fun next => ?_)
            · intro ⟨o42_26, o43_26, o44_26, _u⟩ h nx H
              refine OJ.rd rfl rfl rfl (r_pick rfl rfl rfl rfl H) ?_
              intro v45_27 H
              refine OJ.mv rfl rfl rfl (r_assign rfl rfl) ?_
              refine OJ.fin ?_
              refine CJ.seq ?_
              refine CJ.region ?_
              refine OJ.rd rfl rfl rfl (r_fieldAddr rfl rfl H) ?_
              intro v46_28 H
              refine OJ.rd rfl rfl rfl (r_load rfl rfl H) ?_
              intro v47_29 H
              refine OJ.rd rfl rfl rfl (r_bin rfl rfl rfl H) ?_
              intro v48_30 H
              refine OJ.mv rfl rfl rfl (r_move rfl rfl) ?_
              refine OJ.cut (X := Option Value × Option Value × Option Value × Unit) 3 (fun x h nx => H98_g31 k  v1_1 v25_15 v45_27 v48_30 x.1 x.2.1 x.2.2.1 h nx) (fun x => [(50, x.1), (51, x.2.1), (52, x.2.2.1), (1, (some v1_1)), (3, (some v25_15)), (4, (some v45_27)), (49, (some v48_30))]) ?_ (fun next => ?_)
              · intro ⟨o50_32, o51_32, o52_32, _u⟩ h nx H
                refine OJ.rd rfl rfl rfl (r_pick rfl rfl rfl rfl H) ?_
                intro v53_33 H
                refine OJ.mv rfl rfl rfl (r_move rfl rfl) ?_
                refine OJ.cut (X := Option Value × Option Value × Unit) 2 (fun x h nx => H98_g34 k  v1_1 v25_15 v45_27 v53_33 x.1 x.2.1 h nx) (fun x => [(55, x.1), (56, x.2.1), (1, (some v1_1)), (3, (some v25_15)), (4, (some v45_27)), (54, (some v53_33))]) ?_ (fun next => ?_)
                · intro ⟨o55_35, o56_35, _u⟩ h nx H
                  refine OJ.rd rfl rfl rfl (r_pick rfl rfl rfl rfl H) ?_
                  intro v57_36 H
                  refine OJ.mv rfl rfl rfl (r_assign rfl rfl) ?_
                  refine OJ.fin ?_
                  refine CJ.seq (CJ.cut (X := Unit) (fun x h nx => H98_j37 k   h nx) (fun x => []) ?_ ?_)
                  · refine CJ.seq ?_
                    refine CJ.region ?_
                    refine OJ.rd rfl rfl rfl (r_fieldAddr rfl rfl H) ?_
                    intro v58_39 H
                    refine OJ.rd rfl rfl rfl (r_load rfl rfl H) ?_
                    intro v59_40 H
                    refine OJ.fu rfl rfl rfl (r_call (args := [v59_40, (.int .i64 (.ofNat 0))]) rfl rfl rfl (And.intro rfl (And.intro rfl True.intro)) Tryz.call96 (sim96 H)) ?_
                    intro v60_41 h41 nx41 H
                    refine OJ.rd rfl rfl rfl (r_un rfl rfl H) ?_
                    intro v61_42 H
                    refine OJ.mv rfl rfl rfl (r_move rfl rfl) ?_
                    refine OJ.cut (X := Option Value × Option Value × Option Value × Unit) 3 (fun x h nx => H98_g43 k  v45_27 v57_36 v61_42 x.1 x.2.1 x.2.2.1 h nx) (fun x => [(63, x.1), (64, x.2.1), (65, x.2.2.1), (4, (some v45_27)), (5, (some v57_36)), (62, (some v61_42))]) ?_ (fun next => ?_)
                    · intro ⟨o63_44, o64_44, o65_44, _u⟩ h nx H
                      refine OJ.cut (X := Option Value × Option Value × Unit) 2 (fun x h nx => H98_g45 k  v57_36 v61_42 o65_44 x.1 x.2.1 h nx) (fun x => [(66, x.1), (67, x.2.1), (5, (some v57_36)), (62, (some v61_42)), (65, o65_44)]) ?_ (fun next => ?_)
                      · intro ⟨o66_46, o67_46, _u⟩ h nx H
                        refine OJ.cut (X := Option Value × Option Value × Unit) 2 (fun x h nx => H98_g47 k  v57_36 v61_42 x.1 x.2.1 h nx) (fun x => [(68, x.1), (69, x.2.1), (5, (some v57_36)), (62, (some v61_42))]) ?_ (fun next => ?_)
                        · intro ⟨o68_48, o69_48, _u⟩ h nx H
                          refine OJ.cut (X := Option Value × Option Value × Unit) 2 (fun x h nx => H98_g49 k  v61_42 o69_48 x.1 x.2.1 h nx) (fun x => [(70, x.1), (71, x.2.1), (62, (some v61_42)), (69, o69_48)]) ?_ (fun next => ?_)
                          · intro ⟨o70_50, o71_50, _u⟩ h nx H
                            refine OJ.cut (X := Option Value × Unit) 1 (fun x h nx => H98_g51 k  v61_42 x.1 h nx) (fun x => [(72, x.1), (62, (some v61_42))]) ?_ (fun next => ?_)
                            · intro ⟨o72_52, _u⟩ h nx H
                              refine OJ.rd rfl rfl rfl (r_pick rfl rfl rfl rfl H) ?_
                              intro v73_53 H
                              refine OJ.fin ?_
                              refine CJ.ite rfl H (fun H => ?_) (fun H => ?_)
                              · cases H
                              · exact CJ.skip [] True.intro (Exists.intro () (And.intro rfl H))
                            · rcases hG_true H with ⟨g, H⟩ | ⟨g, H⟩
                              · obtain ⟨v69_54, eq_, G_⟩ := optK_true H
                                clear H
                                subst eq_
                                have H := G_
                                clear G_
                                refine OJ.grd rfl rfl rfl g rfl rfl (r_pick rfl rfl rfl rfl H) ?_
                                intro v72_55 H
                                exact OJ.weaken [(72, (some v72_55)), (62, (some v61_42))] (And.intro rfl (And.intro rfl True.intro)) (next ((some v72_55), ()) _ _ H)
                              · refine OJ.no rfl rfl rfl g rfl rfl ?_
                                exact OJ.weaken [(72, none), (62, (some v61_42))] (And.intro rfl (And.intro rfl True.intro)) (next (none, ()) _ _ H)
                          · rcases hG_true H with ⟨g, H⟩ | ⟨g, H⟩
                            · cases H
                            · refine OJ.no rfl rfl rfl g rfl rfl ?_
                              refine OJ.no rfl rfl rfl g rfl rfl ?_
                              exact OJ.weaken [(70, none), (71, none), (62, (some v61_42)), (69, o69_48)] (And.intro rfl (And.intro rfl (And.intro rfl (And.intro rfl True.intro)))) (next (none, none, ()) _ _ H)
                        · rcases hG_true H with ⟨g, H⟩ | ⟨g, H⟩
                          · obtain ⟨v65_56, eq_, G_⟩ := optK_true H
                            clear H
                            subst eq_
                            have H := G_
                            clear G_
                            refine OJ.grd rfl rfl rfl g rfl rfl (r_pick rfl rfl rfl rfl H) ?_
                            intro v68_57 H
                            refine OJ.gmv rfl rfl rfl g rfl rfl (r_move rfl rfl) ?_
                            exact OJ.weaken [(68, (some v68_57)), (69, (some v68_57)), (5, (some v57_36)), (62, (some v61_42))] (And.intro rfl (And.intro rfl (And.intro rfl (And.intro rfl True.intro)))) (next ((some v68_57), (some v68_57), ()) _ _ H)
                          · refine OJ.no rfl rfl rfl g rfl rfl ?_
                            refine OJ.no rfl rfl rfl g rfl rfl ?_
                            exact OJ.weaken [(68, none), (69, none), (5, (some v57_36)), (62, (some v61_42))] (And.intro rfl (And.intro rfl (And.intro rfl (And.intro rfl True.intro)))) (next (none, none, ()) _ _ H)
                      · rcases hG_true H with ⟨g, H⟩ | ⟨g, H⟩
                        · refine OJ.gmv rfl rfl rfl g rfl rfl (r_move rfl rfl) ?_
                          refine OJ.grd rfl rfl rfl g rfl rfl (r_un rfl rfl H) ?_
                          intro v67_58 H
                          exact OJ.weaken [(66, (some v45_27)), (67, (some v67_58)), (5, (some v57_36)), (62, (some v61_42)), (65, o65_44)] (And.intro rfl (And.intro rfl (And.intro rfl (And.intro rfl (And.intro rfl True.intro))))) (next ((some v45_27), (some v67_58), ()) _ _ H)
                        · refine OJ.no rfl rfl rfl g rfl rfl ?_
                          refine OJ.no rfl rfl rfl g rfl rfl ?_
                          exact OJ.weaken [(66, none), (67, none), (5, (some v57_36)), (62, (some v61_42)), (65, o65_44)] (And.intro rfl (And.intro rfl (And.intro rfl (And.intro rfl (And.intro rfl True.intro))))) (next (none, none, ()) _ _ H)
                    · rcases hG_true H with ⟨g, H⟩ | ⟨g, H⟩
                      · refine OJ.gmv rfl rfl rfl g rfl rfl (r_move rfl rfl) ?_
                        refine OJ.grd rfl rfl rfl g rfl rfl (r_un rfl rfl H) ?_
                        intro v64_59 H
                        refine OJ.gmv rfl rfl rfl g rfl rfl (r_move rfl rfl) ?_
                        exact OJ.weaken [(63, (some v25_15)), (64, (some v64_59)), (65, (some v64_59)), (4, (some v45_27)), (5, (some v57_36)), (62, (some v61_42))] (And.intro rfl (And.intro rfl (And.intro rfl (And.intro rfl (And.intro rfl (And.intro rfl True.intro)))))) (next ((some v25_15), (some v64_59), (some v64_59), ()) _ _ H)
                      · refine OJ.no rfl rfl rfl g rfl rfl ?_
                        refine OJ.no rfl rfl rfl g rfl rfl ?_
                        refine OJ.no rfl rfl rfl g rfl rfl ?_
                        exact OJ.weaken [(63, none), (64, none), (65, none), (4, (some v45_27)), (5, (some v57_36)), (62, (some v61_42))] (And.intro rfl (And.intro rfl (And.intro rfl (And.intro rfl (And.intro rfl (And.intro rfl True.intro)))))) (next (none, none, none, ()) _ _ H)
                  · intro _u h nx H
                    refine CJ.seq ?_
                    refine CJ.region ?_
                    refine OJ.mv rfl rfl rfl (r_assign rfl rfl) ?_
                    refine OJ.fin ?_
                    refine CJ.ret1 ?_
                    exact ret_one (Or.inr rfl) rfl rfl H
                · rcases hG_true H with ⟨g, H⟩ | ⟨g, H⟩
                  · cases H
                  · refine OJ.no rfl rfl rfl g rfl rfl ?_
                    refine OJ.no rfl rfl rfl g rfl rfl ?_
                    exact OJ.weaken [(55, none), (56, none), (1, (some v1_1)), (3, (some v25_15)), (4, (some v45_27)), (54, (some v53_33))] (And.intro rfl (And.intro rfl (And.intro rfl (And.intro rfl (And.intro rfl (And.intro rfl True.intro)))))) (next (none, none, ()) _ _ H)
              · rcases hG_true H with ⟨g, H⟩ | ⟨g, H⟩
                · refine OJ.grd rfl rfl rfl g rfl rfl (r_fieldAddr rfl rfl H) ?_
                  intro v50_60 H
                  refine OJ.grd rfl rfl rfl g rfl rfl (r_load rfl rfl H) ?_
                  intro v51_61 H
                  refine OJ.grd rfl rfl rfl g rfl rfl (r_bin rfl rfl rfl H) ?_
                  intro v52_62 H
                  exact OJ.weaken [(50, (some v50_60)), (51, (some v51_61)), (52, (some v52_62)), (1, (some v1_1)), (3, (some v25_15)), (4, (some v45_27)), (49, (some v48_30))] (And.intro rfl (And.intro rfl (And.intro rfl (And.intro rfl (And.intro rfl (And.intro rfl (And.intro rfl True.intro))))))) (next ((some v50_60), (some v51_61), (some v52_62), ()) _ _ H)
                · refine OJ.no rfl rfl rfl g rfl rfl ?_
                  refine OJ.no rfl rfl rfl g rfl rfl ?_
                  refine OJ.no rfl rfl rfl g rfl rfl ?_
                  exact OJ.weaken [(50, none), (51, none), (52, none), (1, (some v1_1)), (3, (some v25_15)), (4, (some v45_27)), (49, (some v48_30))] (And.intro rfl (And.intro rfl (And.intro rfl (And.intro rfl (And.intro rfl (And.intro rfl (And.intro rfl True.intro))))))) (next (none, none, none, ()) _ _ H)
            · rcases hG_true H with ⟨g, H⟩ | ⟨g, H⟩
              · refine OJ.grd rfl rfl rfl g rfl rfl (r_fieldAddr rfl rfl H) ?_
                intro v42_63 H
                refine OJ.grd rfl rfl rfl g rfl rfl (r_load rfl rfl H) ?_
                intro v43_64 H
                refine OJ.grd rfl rfl rfl g rfl rfl (r_un rfl rfl H) ?_
                intro v44_65 H
                exact OJ.weaken [(42, (some v42_63)), (43, (some v43_64)), (44, (some v44_65)), (1, (some v1_1)), (3, (some v25_15)), (41, (some v40_24))] (And.intro rfl (And.intro rfl (And.intro rfl (And.intro rfl (And.intro rfl (And.intro rfl True.intro)))))) (next ((some v42_63), (some v43_64), (some v44_65), ()) _ _ H)
              · refine OJ.no rfl rfl rfl g rfl rfl ?_
                refine OJ.no rfl rfl rfl g rfl rfl ?_
                refine OJ.no rfl rfl rfl g rfl rfl ?_
                exact OJ.weaken [(42, none), (43, none), (44, none), (1, (some v1_1)), (3, (some v25_15)), (41, (some v40_24))] (And.intro rfl (And.intro rfl (And.intro rfl (And.intro rfl (And.intro rfl (And.intro rfl True.intro)))))) (next (none, none, none, ()) _ _ H)
          · rcases hG_true H with ⟨g, H⟩ | ⟨g, H⟩
            · refine OJ.grd rfl rfl rfl g rfl rfl (r_fieldAddr rfl rfl H) ?_
              intro v37_66 H
              refine OJ.grd rfl rfl rfl g rfl rfl (r_load rfl rfl H) ?_
              intro v38_67 H
              refine OJ.grd rfl rfl rfl g rfl rfl (r_bin rfl rfl rfl H) ?_
              intro v39_68 H
              exact OJ.weaken [(37, (some v37_66)), (38, (some v38_67)), (39, (some v39_68)), (1, (some v1_1)), (3, (some v25_15)), (36, (some v35_21))] (And.intro rfl (And.intro rfl (And.intro rfl (And.intro rfl (And.intro rfl (And.intro rfl True.intro)))))) (next ((some v37_66), (some v38_67), (some v39_68), ()) _ _ H)
            · refine OJ.no rfl rfl rfl g rfl rfl ?_
              refine OJ.no rfl rfl rfl g rfl rfl ?_
              refine OJ.no rfl rfl rfl g rfl rfl ?_
              exact OJ.weaken [(37, none), (38, none), (39, none), (1, (some v1_1)), (3, (some v25_15)), (36, (some v35_21))] (And.intro rfl (And.intro rfl (And.intro rfl (And.intro rfl (And.intro rfl (And.intro rfl True.intro)))))) (next (none, none, none, ()) _ _ H)
        · rcases hG_true H with ⟨g, H⟩ | ⟨g, H⟩
          · refine OJ.grd rfl rfl rfl g rfl rfl (r_fieldAddr rfl rfl H) ?_
            intro v30_69 H
            refine OJ.grd rfl rfl rfl g rfl rfl (r_load rfl rfl H) ?_
            intro v31_70 H
            refine OJ.grd rfl rfl rfl g rfl rfl (r_fieldAddr rfl rfl H) ?_
            intro v32_71 H
            refine OJ.grd rfl rfl rfl g rfl rfl (r_load rfl rfl H) ?_
            intro v33_72 H
            refine OJ.grd rfl rfl rfl g rfl rfl (r_bin rfl rfl rfl H) ?_
            intro v34_73 H
            exact OJ.weaken [(30, (some v30_69)), (31, (some v31_70)), (32, (some v32_71)), (33, (some v33_72)), (34, (some v34_73)), (1, (some v1_1)), (3, (some v25_15)), (29, (some v28_18))] (And.intro rfl (And.intro rfl (And.intro rfl (And.intro rfl (And.intro rfl (And.intro rfl (And.intro rfl (And.intro rfl True.intro)))))))) (next ((some v30_69), (some v31_70), (some v32_71), (some v33_72), (some v34_73), ()) _ _ H)
          · refine OJ.no rfl rfl rfl g rfl rfl ?_
            refine OJ.no rfl rfl rfl g rfl rfl ?_
            refine OJ.no rfl rfl rfl g rfl rfl ?_
            refine OJ.no rfl rfl rfl g rfl rfl ?_
            refine OJ.no rfl rfl rfl g rfl rfl ?_
            exact OJ.weaken [(30, none), (31, none), (32, none), (33, none), (34, none), (1, (some v1_1)), (3, (some v25_15)), (29, (some v28_18))] (And.intro rfl (And.intro rfl (And.intro rfl (And.intro rfl (And.intro rfl (And.intro rfl (And.intro rfl (And.intro rfl True.intro)))))))) (next (none, none, none, none, none, ()) _ _ H)
      · rcases hG_true H with ⟨g, H⟩ | ⟨g, H⟩
        · cases H
        · refine OJ.no rfl rfl rfl g rfl rfl ?_
          refine OJ.no rfl rfl rfl g rfl rfl ?_
          refine OJ.no rfl rfl rfl g rfl rfl ?_
          exact OJ.weaken [(22, none), (23, none), (24, none), (1, (some v1_1)), (21, (some v20_12))] (And.intro rfl (And.intro rfl (And.intro rfl (And.intro rfl (And.intro rfl True.intro))))) (next (none, none, none, ()) _ _ H)
    · rcases hG_true H with ⟨g, H⟩ | ⟨g, H⟩
      · cases H
      · refine OJ.no rfl rfl rfl g rfl rfl ?_
        refine OJ.no rfl rfl rfl g rfl rfl ?_
        refine OJ.no rfl rfl rfl g rfl rfl ?_
        exact OJ.weaken [(17, none), (18, none), (19, none), (1, (some v1_1)), (16, (some v15_9))] (And.intro rfl (And.intro rfl (And.intro rfl (And.intro rfl (And.intro rfl True.intro))))) (next (none, none, none, ()) _ _ H)
  · rcases hG_true H with ⟨g, H⟩ | ⟨g, H⟩
    · refine OJ.grd rfl rfl rfl g rfl rfl (r_fieldAddr rfl rfl H) ?_
      intro v12_74 H
      refine OJ.grd rfl rfl rfl g rfl rfl (r_load rfl rfl H) ?_
      intro v13_75 H
      refine OJ.grd rfl rfl rfl g rfl rfl (r_bin rfl rfl rfl H) ?_
      intro v14_76 H
      exact OJ.weaken [(12, (some v12_74)), (13, (some v13_75)), (14, (some v14_76)), (1, (some v1_1)), (11, (some v10_6))] (And.intro rfl (And.intro rfl (And.intro rfl (And.intro rfl (And.intro rfl True.intro))))) (next ((some v12_74), (some v13_75), (some v14_76), ()) _ _ H)
    · refine OJ.no rfl rfl rfl g rfl rfl ?_
      refine OJ.no rfl rfl rfl g rfl rfl ?_
      refine OJ.no rfl rfl rfl g rfl rfl ?_
      exact OJ.weaken [(12, none), (13, none), (14, none), (1, (some v1_1)), (11, (some v10_6))] (And.intro rfl (And.intro rfl (And.intro rfl (And.intro rfl (And.intro rfl True.intro))))) (next (none, none, none, ()) _ _ H)

/-! 165 -/
noncomputable def H165_j1 (k : KV)   (h : Heap) (nx : Nat) : Bool :=
  k (.int .i64 (.negSucc 0)) h nx
noncomputable def H165_j7 (k : KV) (ih4 : Value → Value → Heap → Nat → Bool)  (h : Heap) (nx : Nat) : Bool :=
  false
noncomputable def H165_l4 (k : KV)  (n : Nat) : Value → Value → Heap → Nat → Bool :=
  Nat.rec (motive := fun _ => Value → Value → Heap → Nat → Bool) (fun _ _ _ _ => false) (fun _ ih4 a7_5 a8_5 h nx => binK Tryz.prog .lss 3 (.tmp 8) (.tmp 7) a8_5 a7_5 fun v9_6 =>
  hIf v9_6 (fun _ => false) (fun _ => H165_j1 k   h nx)) n
noncomputable def H165 (a0 : Value) (a1 : Value) (h : Heap) (nx : Nat) (k : KV) : Bool :=
  lenK Tryz.prog 49 a0 h fun v7_3 =>
  H165_l4 k  200000 v7_3 (.int .i64 (.ofNat 0)) h nx
theorem sim165 {a0 a1 : Value} {h : Heap} {nx : Nat} {k : KV} (H : H165 a0 a1 h nx k = true) : ∃ v h' nx', k v h' nx' = true ∧ CallSim Tryz.prog 165 [a0, a1] h nx v h' nx' := by
  refine fn_rule Tryz.func165 rfl rfl ?_
  refine CJ.seq ?_
  refine CJ.region ?_
  refine OJ.mv rfl rfl rfl (r_assign rfl rfl) ?_
  refine OJ.fin ?_
  refine CJ.seq (CJ.cut (X := Unit) (fun x h nx => H165_j1 k   h nx) (fun x => []) ?_ ?_)
  · refine CJ.seq ?_
    refine CJ.region ?_
    refine OJ.mv rfl rfl rfl (r_move rfl rfl) ?_
    refine OJ.rd rfl rfl rfl (r_len (x := default) rfl rfl (And.intro rfl True.intro) rfl H) ?_
    intro v7_3 H
    refine OJ.mv rfl rfl rfl (r_move rfl rfl) ?_
    refine OJ.fin ?_
    refine CJ.block ?_
    refine CJ.weaken [(7, (some v7_3)), (8, (some (.int .i64 (.ofNat 0))))] (And.intro rfl (And.intro rfl True.intro)) ?_
    refine CJ.loop_ind (X := Value × Value × Unit) (fun n x h nx => H165_l4 k  n x.1 x.2.1 h nx) (fun x => [(7, some x.1), (8, some x.2.1)]) (fun _ _ _ => rfl) ?_ 200000 (v7_3, (.int .i64 (.ofNat 0)), ()) _ _ H
    intro ih4n ih4p ⟨a7_5, a8_5, _u⟩ h nx H
    let ih4 := H165_l4 k  ih4n
    refine CJ.seq ?_
    refine CJ.region ?_
    refine OJ.rd rfl rfl rfl (r_bin rfl rfl rfl H) ?_
    intro v9_6 H
    refine OJ.fin ?_
    refine CJ.seq (CJ.cut (X := Unit) (fun x h nx => H165_j7 k ih4  h nx) (fun x => []) ?_ ?_)
    · refine CJ.ite rfl H (fun H => ?_) (fun H => ?_)
      · cases H
      · exact CJ.exit [] True.intro (Exists.intro () (And.intro rfl H))
    · intro _u h nx H
      cases H
  · intro _u h nx H
    refine CJ.seq ?_
    refine CJ.region ?_
    refine OJ.mv rfl rfl rfl (r_assign rfl rfl) ?_
    refine OJ.fin ?_
    refine CJ.ret1 ?_
    exact ret_one (Or.inr rfl) rfl rfl H

/-! 142 -/
noncomputable def H142 (a0 : Value) (a1 : Value) (h : Heap) (nx : Nat) (k : KV) : Bool :=
  H165 a0 a1 h nx fun v7_1 h1 nx1 =>
  binK Tryz.prog .geq 3 (.tmp 7) (.const (.int .i64 (.ofNat 0))) v7_1 (.int .i64 (.ofNat 0)) fun v8_2 =>
  k v8_2 h1 nx1
theorem sim142 {a0 a1 : Value} {h : Heap} {nx : Nat} {k : KV} (H : H142 a0 a1 h nx k = true) : ∃ v h' nx', k v h' nx' = true ∧ CallSim Tryz.prog 142 [a0, a1] h nx v h' nx' := by
  refine fn_rule Tryz.func142 rfl rfl ?_
  refine CJ.seq ?_
  refine CJ.region ?_
  refine OJ.mv rfl rfl rfl (r_assign rfl rfl) ?_
  refine OJ.fin ?_
  refine CJ.seq ?_
  refine CJ.region ?_
  refine OJ.mv rfl rfl rfl (r_move rfl rfl) ?_
  refine OJ.mv rfl rfl rfl (r_move rfl rfl) ?_
  refine OJ.fu rfl rfl rfl (r_call (args := [a0, a1]) rfl rfl rfl (And.intro rfl (And.intro rfl True.intro)) Tryz.call165 (sim165 H)) ?_
  intro v7_1 h1 nx1 H
  refine OJ.rd rfl rfl rfl (r_bin rfl rfl rfl H) ?_
  intro v8_2 H
  refine OJ.mv rfl rfl rfl (r_assign rfl rfl) ?_
  refine OJ.fin ?_
  refine CJ.ret1 ?_
  exact ret_one (Or.inr rfl) rfl rfl H

/-! 99 -/
noncomputable def H99_j2 (k : KV)   (h : Heap) (nx : Nat) : Bool :=
  k (.int .i64 (.ofNat 0)) h nx
noncomputable def H99_g28 (k : KV)  (v49_27 : Value) (o51_29 : Option Value) (o52_29 : Option Value) (o53_29 : Option Value) (h : Heap) (nx : Nat) : Bool :=
  hPick v49_27 (some (.bool true)) o53_29 fun v54_30 =>
  hIf v54_30 (fun _ => false) (fun _ => H99_j2 k   h nx)
noncomputable def H99_g25 (k : KV)  (v1_1 : Value) (v40_24 : Value) (o42_26 : Option Value) (o43_26 : Option Value) (o44_26 : Option Value) (o45_26 : Option Value) (o46_26 : Option Value) (o47_26 : Option Value) (o48_26 : Option Value) (h : Heap) (nx : Nat) : Bool :=
  hPick v40_24 (some (.bool true)) o48_26 fun v49_27 =>
  hG (some v49_27) false (fun _ => hFieldAddr Tryz.prog 51 v1_1 2 fun v51_31 =>
  loadK Tryz.prog 49 v51_31 h fun v52_32 =>
  H142 v52_32 (.func (.func 143) ⟨[]⟩ ⟨[]⟩) h nx fun v53_33 h33 nx33 =>
  H99_g28 k  v49_27 (some v51_31) (some v52_32) (some v53_33) h33 nx33) (fun _ => H99_g28 k  v49_27 none none none h nx)
noncomputable def H99_g22 (k : KV)  (v1_1 : Value) (v35_21 : Value) (o37_23 : Option Value) (o38_23 : Option Value) (o39_23 : Option Value) (h : Heap) (nx : Nat) : Bool :=
  hPick v35_21 (some (.bool true)) o39_23 fun v40_24 =>
  hG (some v40_24) false (fun _ => hFieldAddr Tryz.prog 51 v1_1 3 fun v42_34 =>
  loadK Tryz.prog 3 v42_34 h fun v43_35 =>
  binK Tryz.prog .eql 3 (.tmp 43) (.const (.int .i64 (.ofNat 0))) v43_35 (.int .i64 (.ofNat 0)) fun v44_36 =>
  hFieldAddr Tryz.prog 51 v1_1 1 fun v45_37 =>
  loadK Tryz.prog 3 v45_37 h fun v46_38 =>
  binK Tryz.prog .eql 3 (.tmp 46) (.const (.int .i64 (.ofNat 0))) v46_38 (.int .i64 (.ofNat 0)) fun v47_39 =>
  binK Tryz.prog .neq 4 (.tmp 44) (.tmp 47) v44_36 v47_39 fun v48_40 =>
  H99_g25 k  v1_1 v40_24 (some v42_34) (some v43_35) (some v44_36) (some v45_37) (some v46_38) (some v47_39) (some v48_40) h nx) (fun _ => H99_g25 k  v1_1 v40_24 none none none none none none none h nx)
noncomputable def H99_g19 (k : KV)  (v1_1 : Value) (v30_18 : Value) (o32_20 : Option Value) (o33_20 : Option Value) (o34_20 : Option Value) (h : Heap) (nx : Nat) : Bool :=
  hPick v30_18 (some (.bool true)) o34_20 fun v35_21 =>
  hG (some v35_21) false (fun _ => hFieldAddr Tryz.prog 51 v1_1 3 fun v37_41 =>
  loadK Tryz.prog 3 v37_41 h fun v38_42 =>
  binK Tryz.prog .gtr 3 (.tmp 38) (.const (.int .i64 (.ofNat 4))) v38_42 (.int .i64 (.ofNat 4)) fun v39_43 =>
  H99_g22 k  v1_1 v35_21 (some v37_41) (some v38_42) (some v39_43) h nx) (fun _ => H99_g22 k  v1_1 v35_21 none none none h nx)
noncomputable def H99_g16 (k : KV)  (v1_1 : Value) (v21_15 : Value) (o23_17 : Option Value) (o24_17 : Option Value) (o25_17 : Option Value) (o26_17 : Option Value) (o27_17 : Option Value) (o28_17 : Option Value) (o29_17 : Option Value) (h : Heap) (nx : Nat) : Bool :=
  hPick v21_15 (some (.bool true)) o29_17 fun v30_18 =>
  hG (some v30_18) false (fun _ => hFieldAddr Tryz.prog 51 v1_1 3 fun v32_44 =>
  loadK Tryz.prog 3 v32_44 h fun v33_45 =>
  binK Tryz.prog .lss 3 (.tmp 33) (.const (.int .i64 (.ofNat 0))) v33_45 (.int .i64 (.ofNat 0)) fun v34_46 =>
  H99_g19 k  v1_1 v30_18 (some v32_44) (some v33_45) (some v34_46) h nx) (fun _ => H99_g19 k  v1_1 v30_18 none none none h nx)
noncomputable def H99_g13 (k : KV)  (v1_1 : Value) (v16_12 : Value) (o18_14 : Option Value) (o19_14 : Option Value) (o20_14 : Option Value) (h : Heap) (nx : Nat) : Bool :=
  hPick v16_12 (some (.bool true)) o20_14 fun v21_15 =>
  hG (some v21_15) false (fun _ => hFieldAddr Tryz.prog 51 v1_1 1 fun v23_47 =>
  loadK Tryz.prog 3 v23_47 h fun v24_48 =>
  hFieldAddr Tryz.prog 51 v1_1 2 fun v25_49 =>
  loadK Tryz.prog 49 v25_49 h fun v26_50 =>
  lenK Tryz.prog 49 v26_50 h fun v27_51 =>
  hMin Tryz.prog [3, 3] [(.int .i64 (.ofNat 16)), v27_51] fun v28_52 =>
  binK Tryz.prog .gtr 3 (.tmp 24) (.tmp 28) v24_48 v28_52 fun v29_53 =>
  H99_g16 k  v1_1 v21_15 (some v23_47) (some v24_48) (some v25_49) (some v26_50) (some v27_51) (some v28_52) (some v29_53) h nx) (fun _ => H99_g16 k  v1_1 v21_15 none none none none none none none h nx)
noncomputable def H99_g10 (k : KV)  (v1_1 : Value) (v10_9 : Value) (o12_11 : Option Value) (o13_11 : Option Value) (o14_11 : Option Value) (o15_11 : Option Value) (h : Heap) (nx : Nat) : Bool :=
  hPick v10_9 (some (.bool true)) o15_11 fun v16_12 =>
  hG (some v16_12) false (fun _ => hFieldAddr Tryz.prog 51 v1_1 1 fun v18_54 =>
  loadK Tryz.prog 3 v18_54 h fun v19_55 =>
  binK Tryz.prog .lss 3 (.tmp 19) (.const (.int .i64 (.ofNat 0))) v19_55 (.int .i64 (.ofNat 0)) fun v20_56 =>
  H99_g13 k  v1_1 v16_12 (some v18_54) (some v19_55) (some v20_56) h nx) (fun _ => H99_g13 k  v1_1 v16_12 none none none h nx)
noncomputable def H99_g7 (k : KV)  (v1_1 : Value) (v5_6 : Value) (o7_8 : Option Value) (o8_8 : Option Value) (o9_8 : Option Value) (h : Heap) (nx : Nat) : Bool :=
  hPick v5_6 (some (.bool true)) o9_8 fun v10_9 =>
  hG (some v10_9) false (fun _ => hFieldAddr Tryz.prog 51 v1_1 2 fun v12_57 =>
  loadK Tryz.prog 49 v12_57 h fun v13_58 =>
  lenK Tryz.prog 49 v13_58 h fun v14_59 =>
  binK Tryz.prog .gtr 3 (.tmp 14) (.const (.int .i64 (.ofNat 256))) v14_59 (.int .i64 (.ofNat 256)) fun v15_60 =>
  H99_g10 k  v1_1 v10_9 (some v12_57) (some v13_58) (some v14_59) (some v15_60) h nx) (fun _ => H99_g10 k  v1_1 v10_9 none none none none h nx)
noncomputable def H99 (a0 : Value) (h : Heap) (nx : Nat) (k : KV) : Bool :=
  hBox a0 h nx fun v1_1 h1 nx1 =>
  hFieldAddr Tryz.prog 51 v1_1 0 fun v3_4 =>
  loadK Tryz.prog 3 v3_4 h1 fun v4_5 =>
  binK Tryz.prog .lss 3 (.tmp 4) (.const (.int .i64 (.ofNat 0))) v4_5 (.int .i64 (.ofNat 0)) fun v5_6 =>
  hG (some v5_6) false (fun _ => hFieldAddr Tryz.prog 51 v1_1 0 fun v7_61 =>
  loadK Tryz.prog 3 v7_61 h1 fun v8_62 =>
  binK Tryz.prog .gtr 3 (.tmp 8) (.const (.int .i64 (.ofNat 2147483647))) v8_62 (.int .i64 (.ofNat 2147483647)) fun v9_63 =>
  H99_g7 k  v1_1 v5_6 (some v7_61) (some v8_62) (some v9_63) h1 nx1) (fun _ => H99_g7 k  v1_1 v5_6 none none none h1 nx1)
theorem sim99 {a0 : Value} {h : Heap} {nx : Nat} {k : KV} (H : H99 a0 h nx k = true) : ∃ v h' nx', k v h' nx' = true ∧ CallSim Tryz.prog 99 [a0] h nx v h' nx' := by
  refine fn_rule Tryz.func99 rfl rfl ?_
  refine CJ.seq ?_
  refine CJ.region ?_
  refine OJ.fu rfl rfl rfl (r_box rfl rfl H) ?_
  intro v1_1 h1 nx1 H
  refine OJ.mv rfl rfl rfl (r_assign rfl rfl) ?_
  refine OJ.fin ?_
  refine CJ.seq (CJ.cut (X := Unit) (fun x h nx => H99_j2 k   h nx) (fun x => []) ?_ ?_)
  · refine CJ.seq ?_
    refine CJ.region ?_
    refine OJ.rd rfl rfl rfl (r_fieldAddr rfl rfl H) ?_
    intro v3_4 H
    refine OJ.rd rfl rfl rfl (r_load rfl rfl H) ?_
    intro v4_5 H
    refine OJ.rd rfl rfl rfl (r_bin rfl rfl rfl H) ?_
    intro v5_6 H
    refine OJ.mv rfl rfl rfl (r_move rfl rfl) ?_
    refine OJ.cut (X := Option Value × Option Value × Option Value × Unit) 3 (fun x h nx => H99_g7 k  v1_1 v5_6 x.1 x.2.1 x.2.2.1 h nx) (fun x => [(7, x.1), (8, x.2.1), (9, x.2.2.1), (1, (some v1_1)), (6, (some v5_6))]) ?_ (fun next => ?_)
    · intro ⟨o7_8, o8_8, o9_8, _u⟩ h nx H
      refine OJ.rd rfl rfl rfl (r_pick rfl rfl rfl rfl H) ?_
      intro v10_9 H
      refine OJ.mv rfl rfl rfl (r_move rfl rfl) ?_
      refine OJ.cut (X := Option Value × Option Value × Option Value × Option Value × Unit) 4 (fun x h nx => H99_g10 k  v1_1 v10_9 x.1 x.2.1 x.2.2.1 x.2.2.2.1 h nx) (fun x => [(12, x.1), (13, x.2.1), (14, x.2.2.1), (15, x.2.2.2.1), (1, (some v1_1)), (11, (some v10_9))]) ?_ (fun next => ?_)
      · intro ⟨o12_11, o13_11, o14_11, o15_11, _u⟩ h nx H
        refine OJ.rd rfl rfl rfl (r_pick rfl rfl rfl rfl H) ?_
        intro v16_12 H
        refine OJ.mv rfl rfl rfl (r_move rfl rfl) ?_
        refine OJ.cut (X := Option Value × Option Value × Option Value × Unit) 3 (fun x h nx => H99_g13 k  v1_1 v16_12 x.1 x.2.1 x.2.2.1 h nx) (fun x => [(18, x.1), (19, x.2.1), (20, x.2.2.1), (1, (some v1_1)), (17, (some v16_12))]) ?_ (fun next => ?_)
        · intro ⟨o18_14, o19_14, o20_14, _u⟩ h nx H
          refine OJ.rd rfl rfl rfl (r_pick rfl rfl rfl rfl H) ?_
          intro v21_15 H
          refine OJ.mv rfl rfl rfl (r_move rfl rfl) ?_
          refine OJ.cut (X := Option Value × Option Value × Option Value × Option Value × Option Value × Option Value × Option Value × Unit) 7 (fun x h nx => H99_g16 k  v1_1 v21_15 x.1 x.2.1 x.2.2.1 x.2.2.2.1 x.2.2.2.2.1 x.2.2.2.2.2.1 x.2.2.2.2.2.2.1 h nx) (fun x => [(23, x.1), (24, x.2.1), (25, x.2.2.1), (26, x.2.2.2.1), (27, x.2.2.2.2.1), (28, x.2.2.2.2.2.1), (29, x.2.2.2.2.2.2.1), (1, (some v1_1)), (22, (some v21_15))]) ?_ (fun next => ?_)
          · intro ⟨o23_17, o24_17, o25_17, o26_17, o27_17, o28_17, o29_17, _u⟩ h nx H
            refine OJ.rd rfl rfl rfl (r_pick rfl rfl rfl rfl H) ?_
            intro v30_18 H
            refine OJ.mv rfl rfl rfl (r_move rfl rfl) ?_
            refine OJ.cut (X := Option Value × Option Value × Option Value × Unit) 3 (fun x h nx => H99_g19 k  v1_1 v30_18 x.1 x.2.1 x.2.2.1 h nx) (fun x => [(32, x.1), (33, x.2.1), (34, x.2.2.1), (1, (some v1_1)), (31, (some v30_18))]) ?_ (fun next => ?_)
            · intro ⟨o32_20, o33_20, o34_20, _u⟩ h nx H
              refine OJ.rd rfl rfl rfl (r_pick rfl rfl rfl rfl H) ?_
              intro v35_21 H
              refine OJ.mv rfl rfl rfl (r_move rfl rfl) ?_
              refine OJ.cut (X := Option Value × Option Value × Option Value × Unit) 3 (fun x h nx => H99_g22 k  v1_1 v35_21 x.1 x.2.1 x.2.2.1 h nx) (fun x => [(37, x.1), (38, x.2.1), (39, x.2.2.1), (1, (some v1_1)), (36, (some v35_21))]) ?_ (fun next => ?_)
              · intro ⟨o37_23, o38_23, o39_23, _u⟩ h nx H
                refine OJ.rd rfl rfl rfl (r_pick rfl rfl rfl rfl H) ?_
                intro v40_24 H
                refine OJ.mv rfl rfl rfl (r_move rfl rfl) ?_
                refine OJ.cut (X := Option Value × Option Value × Option Value × Option Value × Option Value × Option Value × Option Value × Unit) 7 (fun x h nx => H99_g25 k  v1_1 v40_24 x.1 x.2.1 x.2.2.1 x.2.2.2.1 x.2.2.2.2.1 x.2.2.2.2.2.1 x.2.2.2.2.2.2.1 h nx) (fun x => [(42, x.1), (43, x.2.1), (44, x.2.2.1), (45, x.2.2.2.1), (46, x.2.2.2.2.1), (47, x.2.2.2.2.2.1), (48, x.2.2.2.2.2.2.1), (1, (some v1_1)), (41, (some v40_24))]) ?_ (fun next => ?_)
                · intro ⟨o42_26, o43_26, o44_26, o45_26, o46_26, o47_26, o48_26, _u⟩ h nx H
                  refine OJ.rd rfl rfl rfl (r_pick rfl rfl rfl rfl H) ?_
                  intro v49_27 H
                  refine OJ.mv rfl rfl rfl (r_move rfl rfl) ?_
                  refine OJ.cut (X := Option Value × Option Value × Option Value × Unit) 3 (fun x h nx => H99_g28 k  v49_27 x.1 x.2.1 x.2.2.1 h nx) (fun x => [(51, x.1), (52, x.2.1), (53, x.2.2.1), (50, (some v49_27))]) ?_ (fun next => ?_)
                  · intro ⟨o51_29, o52_29, o53_29, _u⟩ h nx H
                    refine OJ.rd rfl rfl rfl (r_pick rfl rfl rfl rfl H) ?_
                    intro v54_30 H
                    refine OJ.fin ?_
                    refine CJ.ite rfl H (fun H => ?_) (fun H => ?_)
                    · cases H
                    · exact CJ.skip [] True.intro (Exists.intro () (And.intro rfl H))
                  · rcases hG_true H with ⟨g, H⟩ | ⟨g, H⟩
                    · refine OJ.grd rfl rfl rfl g rfl rfl (r_fieldAddr rfl rfl H) ?_
                      intro v51_31 H
                      refine OJ.grd rfl rfl rfl g rfl rfl (r_load rfl rfl H) ?_
                      intro v52_32 H
                      refine OJ.gfu rfl rfl rfl g rfl rfl (r_call (args := [v52_32, (.func (.func 143) ⟨[]⟩ ⟨[]⟩)]) rfl rfl rfl (And.intro rfl (And.intro rfl True.intro)) Tryz.call142 (sim142 H)) ?_
                      intro v53_33 h33 nx33 H
                      exact OJ.weaken [(51, (some v51_31)), (52, (some v52_32)), (53, (some v53_33)), (50, (some v49_27))] (And.intro rfl (And.intro rfl (And.intro rfl (And.intro rfl True.intro)))) (next ((some v51_31), (some v52_32), (some v53_33), ()) _ _ H)
                    · refine OJ.no rfl rfl rfl g rfl rfl ?_
                      refine OJ.no rfl rfl rfl g rfl rfl ?_
                      refine OJ.no rfl rfl rfl g rfl rfl ?_
                      exact OJ.weaken [(51, none), (52, none), (53, none), (50, (some v49_27))] (And.intro rfl (And.intro rfl (And.intro rfl (And.intro rfl True.intro)))) (next (none, none, none, ()) _ _ H)
                · rcases hG_true H with ⟨g, H⟩ | ⟨g, H⟩
                  · refine OJ.grd rfl rfl rfl g rfl rfl (r_fieldAddr rfl rfl H) ?_
                    intro v42_34 H
                    refine OJ.grd rfl rfl rfl g rfl rfl (r_load rfl rfl H) ?_
                    intro v43_35 H
                    refine OJ.grd rfl rfl rfl g rfl rfl (r_bin rfl rfl rfl H) ?_
                    intro v44_36 H
                    refine OJ.grd rfl rfl rfl g rfl rfl (r_fieldAddr rfl rfl H) ?_
                    intro v45_37 H
                    refine OJ.grd rfl rfl rfl g rfl rfl (r_load rfl rfl H) ?_
                    intro v46_38 H
                    refine OJ.grd rfl rfl rfl g rfl rfl (r_bin rfl rfl rfl H) ?_
                    intro v47_39 H
                    refine OJ.grd rfl rfl rfl g rfl rfl (r_bin rfl rfl rfl H) ?_
                    intro v48_40 H
                    exact OJ.weaken [(42, (some v42_34)), (43, (some v43_35)), (44, (some v44_36)), (45, (some v45_37)), (46, (some v46_38)), (47, (some v47_39)), (48, (some v48_40)), (1, (some v1_1)), (41, (some v40_24))] (And.intro rfl (And.intro rfl (And.intro rfl (And.intro rfl (And.intro rfl (And.intro rfl (And.intro rfl (And.intro rfl (And.intro rfl True.intro))))))))) (next ((some v42_34), (some v43_35), (some v44_36), (some v45_37), (some v46_38), (some v47_39), (some v48_40), ()) _ _ H)
                  · refine OJ.no rfl rfl rfl g rfl rfl ?_
                    refine OJ.no rfl rfl rfl g rfl rfl ?_
                    refine OJ.no rfl rfl rfl g rfl rfl ?_
                    refine OJ.no rfl rfl rfl g rfl rfl ?_
                    refine OJ.no rfl rfl rfl g rfl rfl ?_
                    refine OJ.no rfl rfl rfl g rfl rfl ?_
                    refine OJ.no rfl rfl rfl g rfl rfl ?_
                    exact OJ.weaken [(42, none), (43, none), (44, none), (45, none), (46, none), (47, none), (48, none), (1, (some v1_1)), (41, (some v40_24))] (And.intro rfl (And.intro rfl (And.intro rfl (And.intro rfl (And.intro rfl (And.intro rfl (And.intro rfl (And.intro rfl (And.intro rfl True.intro))))))))) (next (none, none, none, none, none, none, none, ()) _ _ H)
              · rcases hG_true H with ⟨g, H⟩ | ⟨g, H⟩
                · refine OJ.grd rfl rfl rfl g rfl rfl (r_fieldAddr rfl rfl H) ?_
                  intro v37_41 H
                  refine OJ.grd rfl rfl rfl g rfl rfl (r_load rfl rfl H) ?_
                  intro v38_42 H
                  refine OJ.grd rfl rfl rfl g rfl rfl (r_bin rfl rfl rfl H) ?_
                  intro v39_43 H
                  exact OJ.weaken [(37, (some v37_41)), (38, (some v38_42)), (39, (some v39_43)), (1, (some v1_1)), (36, (some v35_21))] (And.intro rfl (And.intro rfl (And.intro rfl (And.intro rfl (And.intro rfl True.intro))))) (next ((some v37_41), (some v38_42), (some v39_43), ()) _ _ H)
                · refine OJ.no rfl rfl rfl g rfl rfl ?_
                  refine OJ.no rfl rfl rfl g rfl rfl ?_
                  refine OJ.no rfl rfl rfl g rfl rfl ?_
                  exact OJ.weaken [(37, none), (38, none), (39, none), (1, (some v1_1)), (36, (some v35_21))] (And.intro rfl (And.intro rfl (And.intro rfl (And.intro rfl (And.intro rfl True.intro))))) (next (none, none, none, ()) _ _ H)
            · rcases hG_true H with ⟨g, H⟩ | ⟨g, H⟩
              · refine OJ.grd rfl rfl rfl g rfl rfl (r_fieldAddr rfl rfl H) ?_
                intro v32_44 H
                refine OJ.grd rfl rfl rfl g rfl rfl (r_load rfl rfl H) ?_
                intro v33_45 H
                refine OJ.grd rfl rfl rfl g rfl rfl (r_bin rfl rfl rfl H) ?_
                intro v34_46 H
                exact OJ.weaken [(32, (some v32_44)), (33, (some v33_45)), (34, (some v34_46)), (1, (some v1_1)), (31, (some v30_18))] (And.intro rfl (And.intro rfl (And.intro rfl (And.intro rfl (And.intro rfl True.intro))))) (next ((some v32_44), (some v33_45), (some v34_46), ()) _ _ H)
              · refine OJ.no rfl rfl rfl g rfl rfl ?_
                refine OJ.no rfl rfl rfl g rfl rfl ?_
                refine OJ.no rfl rfl rfl g rfl rfl ?_
                exact OJ.weaken [(32, none), (33, none), (34, none), (1, (some v1_1)), (31, (some v30_18))] (And.intro rfl (And.intro rfl (And.intro rfl (And.intro rfl (And.intro rfl True.intro))))) (next (none, none, none, ()) _ _ H)
          · rcases hG_true H with ⟨g, H⟩ | ⟨g, H⟩
            · refine OJ.grd rfl rfl rfl g rfl rfl (r_fieldAddr rfl rfl H) ?_
              intro v23_47 H
              refine OJ.grd rfl rfl rfl g rfl rfl (r_load rfl rfl H) ?_
              intro v24_48 H
              refine OJ.grd rfl rfl rfl g rfl rfl (r_fieldAddr rfl rfl H) ?_
              intro v25_49 H
              refine OJ.grd rfl rfl rfl g rfl rfl (r_load rfl rfl H) ?_
              intro v26_50 H
              refine OJ.grd rfl rfl rfl g rfl rfl (r_len (x := default) rfl rfl (And.intro rfl True.intro) rfl H) ?_
              intro v27_51 H
              refine OJ.grd rfl rfl rfl g rfl rfl (r_min (xs := [(.int .i64 (.ofNat 16)), v27_51]) rfl rfl (And.intro rfl (And.intro rfl True.intro)) rfl H) ?_
              intro v28_52 H
              refine OJ.grd rfl rfl rfl g rfl rfl (r_bin rfl rfl rfl H) ?_
              intro v29_53 H
              exact OJ.weaken [(23, (some v23_47)), (24, (some v24_48)), (25, (some v25_49)), (26, (some v26_50)), (27, (some v27_51)), (28, (some v28_52)), (29, (some v29_53)), (1, (some v1_1)), (22, (some v21_15))] (And.intro rfl (And.intro rfl (And.intro rfl (And.intro rfl (And.intro rfl (And.intro rfl (And.intro rfl (And.intro rfl (And.intro rfl True.intro))))))))) (next ((some v23_47), (some v24_48), (some v25_49), (some v26_50), (some v27_51), (some v28_52), (some v29_53), ()) _ _ H)
            · refine OJ.no rfl rfl rfl g rfl rfl ?_
              refine OJ.no rfl rfl rfl g rfl rfl ?_
              refine OJ.no rfl rfl rfl g rfl rfl ?_
              refine OJ.no rfl rfl rfl g rfl rfl ?_
              refine OJ.no rfl rfl rfl g rfl rfl ?_
              refine OJ.no rfl rfl rfl g rfl rfl ?_
              refine OJ.no rfl rfl rfl g rfl rfl ?_
              exact OJ.weaken [(23, none), (24, none), (25, none), (26, none), (27, none), (28, none), (29, none), (1, (some v1_1)), (22, (some v21_15))] (And.intro rfl (And.intro rfl (And.intro rfl (And.intro rfl (And.intro rfl (And.intro rfl (And.intro rfl (And.intro rfl (And.intro rfl True.intro))))))))) (next (none, none, none, none, none, none, none, ()) _ _ H)
        · rcases hG_true H with ⟨g, H⟩ | ⟨g, H⟩
          · refine OJ.grd rfl rfl rfl g rfl rfl (r_fieldAddr rfl rfl H) ?_
            intro v18_54 H
            refine OJ.grd rfl rfl rfl g rfl rfl (r_load rfl rfl H) ?_
            intro v19_55 H
            refine OJ.grd rfl rfl rfl g rfl rfl (r_bin rfl rfl rfl H) ?_
            intro v20_56 H
            exact OJ.weaken [(18, (some v18_54)), (19, (some v19_55)), (20, (some v20_56)), (1, (some v1_1)), (17, (some v16_12))] (And.intro rfl (And.intro rfl (And.intro rfl (And.intro rfl (And.intro rfl True.intro))))) (next ((some v18_54), (some v19_55), (some v20_56), ()) _ _ H)
          · refine OJ.no rfl rfl rfl g rfl rfl ?_
            refine OJ.no rfl rfl rfl g rfl rfl ?_
            refine OJ.no rfl rfl rfl g rfl rfl ?_
            exact OJ.weaken [(18, none), (19, none), (20, none), (1, (some v1_1)), (17, (some v16_12))] (And.intro rfl (And.intro rfl (And.intro rfl (And.intro rfl (And.intro rfl True.intro))))) (next (none, none, none, ()) _ _ H)
      · rcases hG_true H with ⟨g, H⟩ | ⟨g, H⟩
        · refine OJ.grd rfl rfl rfl g rfl rfl (r_fieldAddr rfl rfl H) ?_
          intro v12_57 H
          refine OJ.grd rfl rfl rfl g rfl rfl (r_load rfl rfl H) ?_
          intro v13_58 H
          refine OJ.grd rfl rfl rfl g rfl rfl (r_len (x := default) rfl rfl (And.intro rfl True.intro) rfl H) ?_
          intro v14_59 H
          refine OJ.grd rfl rfl rfl g rfl rfl (r_bin rfl rfl rfl H) ?_
          intro v15_60 H
          exact OJ.weaken [(12, (some v12_57)), (13, (some v13_58)), (14, (some v14_59)), (15, (some v15_60)), (1, (some v1_1)), (11, (some v10_9))] (And.intro rfl (And.intro rfl (And.intro rfl (And.intro rfl (And.intro rfl (And.intro rfl True.intro)))))) (next ((some v12_57), (some v13_58), (some v14_59), (some v15_60), ()) _ _ H)
        · refine OJ.no rfl rfl rfl g rfl rfl ?_
          refine OJ.no rfl rfl rfl g rfl rfl ?_
          refine OJ.no rfl rfl rfl g rfl rfl ?_
          refine OJ.no rfl rfl rfl g rfl rfl ?_
          exact OJ.weaken [(12, none), (13, none), (14, none), (15, none), (1, (some v1_1)), (11, (some v10_9))] (And.intro rfl (And.intro rfl (And.intro rfl (And.intro rfl (And.intro rfl (And.intro rfl True.intro)))))) (next (none, none, none, none, ()) _ _ H)
    · rcases hG_true H with ⟨g, H⟩ | ⟨g, H⟩
      · refine OJ.grd rfl rfl rfl g rfl rfl (r_fieldAddr rfl rfl H) ?_
        intro v7_61 H
        refine OJ.grd rfl rfl rfl g rfl rfl (r_load rfl rfl H) ?_
        intro v8_62 H
        refine OJ.grd rfl rfl rfl g rfl rfl (r_bin rfl rfl rfl H) ?_
        intro v9_63 H
        exact OJ.weaken [(7, (some v7_61)), (8, (some v8_62)), (9, (some v9_63)), (1, (some v1_1)), (6, (some v5_6))] (And.intro rfl (And.intro rfl (And.intro rfl (And.intro rfl (And.intro rfl True.intro))))) (next ((some v7_61), (some v8_62), (some v9_63), ()) _ _ H)
      · refine OJ.no rfl rfl rfl g rfl rfl ?_
        refine OJ.no rfl rfl rfl g rfl rfl ?_
        refine OJ.no rfl rfl rfl g rfl rfl ?_
        exact OJ.weaken [(7, none), (8, none), (9, none), (1, (some v1_1)), (6, (some v5_6))] (And.intro rfl (And.intro rfl (And.intro rfl (And.intro rfl (And.intro rfl True.intro))))) (next (none, none, none, ()) _ _ H)
  · intro _u h nx H
    refine CJ.seq ?_
    refine CJ.region ?_
    refine OJ.mv rfl rfl rfl (r_assign rfl rfl) ?_
    refine OJ.fin ?_
    refine CJ.ret1 ?_
    exact ret_one (Or.inr rfl) rfl rfl H

/-! 100 -/
noncomputable def H100_j2 (k : KV)   (h : Heap) (nx : Nat) : Bool :=
  k (.int .i64 (.ofNat 0)) h nx
noncomputable def H100_g7 (k : KV)  (v5_6 : Value) (o7_8 : Option Value) (o8_8 : Option Value) (o9_8 : Option Value) (h : Heap) (nx : Nat) : Bool :=
  hPick v5_6 (some (.bool true)) o9_8 fun v10_9 =>
  hIf v10_9 (fun _ => false) (fun _ => H100_j2 k   h nx)
noncomputable def H100 (a0 : Value) (h : Heap) (nx : Nat) (k : KV) : Bool :=
  hBox a0 h nx fun v1_1 h1 nx1 =>
  hFieldAddr Tryz.prog 53 v1_1 0 fun v3_4 =>
  loadK Tryz.prog 3 v3_4 h1 fun v4_5 =>
  binK Tryz.prog .lss 3 (.tmp 4) (.const (.int .i64 (.ofNat 0))) v4_5 (.int .i64 (.ofNat 0)) fun v5_6 =>
  hG (some v5_6) false (fun _ => hFieldAddr Tryz.prog 53 v1_1 0 fun v7_10 =>
  loadK Tryz.prog 3 v7_10 h1 fun v8_11 =>
  binK Tryz.prog .gtr 3 (.tmp 8) (.const (.int .i64 (.ofNat 2147483647))) v8_11 (.int .i64 (.ofNat 2147483647)) fun v9_12 =>
  H100_g7 k  v5_6 (some v7_10) (some v8_11) (some v9_12) h1 nx1) (fun _ => H100_g7 k  v5_6 none none none h1 nx1)
theorem sim100 {a0 : Value} {h : Heap} {nx : Nat} {k : KV} (H : H100 a0 h nx k = true) : ∃ v h' nx', k v h' nx' = true ∧ CallSim Tryz.prog 100 [a0] h nx v h' nx' := by
  refine fn_rule Tryz.func100 rfl rfl ?_
  refine CJ.seq ?_
  refine CJ.region ?_
  refine OJ.fu rfl rfl rfl (r_box rfl rfl H) ?_
  intro v1_1 h1 nx1 H
  refine OJ.mv rfl rfl rfl (r_assign rfl rfl) ?_
  refine OJ.fin ?_
  refine CJ.seq (CJ.cut (X := Unit) (fun x h nx => H100_j2 k   h nx) (fun x => []) ?_ ?_)
  · refine CJ.seq ?_
    refine CJ.region ?_
    refine OJ.rd rfl rfl rfl (r_fieldAddr rfl rfl H) ?_
    intro v3_4 H
    refine OJ.rd rfl rfl rfl (r_load rfl rfl H) ?_
    intro v4_5 H
    refine OJ.rd rfl rfl rfl (r_bin rfl rfl rfl H) ?_
    intro v5_6 H
    refine OJ.mv rfl rfl rfl (r_move rfl rfl) ?_
    refine OJ.cut (X := Option Value × Option Value × Option Value × Unit) 3 (fun x h nx => H100_g7 k  v5_6 x.1 x.2.1 x.2.2.1 h nx) (fun x => [(7, x.1), (8, x.2.1), (9, x.2.2.1), (6, (some v5_6))]) ?_ (fun next => ?_)
    · intro ⟨o7_8, o8_8, o9_8, _u⟩ h nx H
      refine OJ.rd rfl rfl rfl (r_pick rfl rfl rfl rfl H) ?_
      intro v10_9 H
      refine OJ.fin ?_
      refine CJ.ite rfl H (fun H => ?_) (fun H => ?_)
      · cases H
      · exact CJ.skip [] True.intro (Exists.intro () (And.intro rfl H))
    · rcases hG_true H with ⟨g, H⟩ | ⟨g, H⟩
      · refine OJ.grd rfl rfl rfl g rfl rfl (r_fieldAddr rfl rfl H) ?_
        intro v7_10 H
        refine OJ.grd rfl rfl rfl g rfl rfl (r_load rfl rfl H) ?_
        intro v8_11 H
        refine OJ.grd rfl rfl rfl g rfl rfl (r_bin rfl rfl rfl H) ?_
        intro v9_12 H
        exact OJ.weaken [(7, (some v7_10)), (8, (some v8_11)), (9, (some v9_12)), (6, (some v5_6))] (And.intro rfl (And.intro rfl (And.intro rfl (And.intro rfl True.intro)))) (next ((some v7_10), (some v8_11), (some v9_12), ()) _ _ H)
      · refine OJ.no rfl rfl rfl g rfl rfl ?_
        refine OJ.no rfl rfl rfl g rfl rfl ?_
        refine OJ.no rfl rfl rfl g rfl rfl ?_
        exact OJ.weaken [(7, none), (8, none), (9, none), (6, (some v5_6))] (And.intro rfl (And.intro rfl (And.intro rfl (And.intro rfl True.intro)))) (next (none, none, none, ()) _ _ H)
  · intro _u h nx H
    refine CJ.seq ?_
    refine CJ.region ?_
    refine OJ.mv rfl rfl rfl (r_assign rfl rfl) ?_
    refine OJ.fin ?_
    refine CJ.ret1 ?_
    exact ret_one (Or.inr rfl) rfl rfl H

/-! 59 -/
noncomputable def H59_j9 (k : KV)   (h : Heap) (nx : Nat) : Bool :=
  k (.int .i64 (.ofNat 0)) h nx
noncomputable def H59_g25 (k : KV)  (v29_20 : Value) (o38_26 : Option Value) (h : Heap) (nx : Nat) : Bool :=
  hPick v29_20 (some (.bool true)) o38_26 fun v39_27 =>
  hIf v39_27 (fun _ => false) (fun _ => H59_j9 k   h nx)
noncomputable def H59_g23 (k : KV)  (v29_20 : Value) (o35_22 : Option Value) (o36_24 : Option Value) (o37_24 : Option Value) (h : Heap) (nx : Nat) : Bool :=
  hG (some v29_20) false (fun _ => optK o35_22 fun v35_28 =>
  hPick v35_28 o37_24 (some (.bool false)) fun v38_29 =>
  H59_g25 k  v29_20 (some v38_29) h nx) (fun _ => H59_g25 k  v29_20 none h nx)
noncomputable def H59_g21 (k : KV)  (v13_8 : Value) (v29_20 : Value) (o31_22 : Option Value) (o32_22 : Option Value) (o33_22 : Option Value) (o34_22 : Option Value) (o35_22 : Option Value) (h : Heap) (nx : Nat) : Bool :=
  hG o35_22 true (fun _ => hUn Tryz.prog .not v13_8 fun v37_30 =>
  H59_g23 k  v29_20 o35_22 (some v13_8) (some v37_30) h nx) (fun _ => H59_g23 k  v29_20 o35_22 none none h nx)
noncomputable def H59_g18 (k : KV)  (v1_1 : Value) (v13_8 : Value) (v23_17 : Value) (o25_19 : Option Value) (o26_19 : Option Value) (o27_19 : Option Value) (o28_19 : Option Value) (h : Heap) (nx : Nat) : Bool :=
  hPick v23_17 (some (.bool true)) o28_19 fun v29_20 =>
  hG (some v29_20) false (fun _ => hFieldAddr Tryz.prog 55 v1_1 0 fun v31_31 =>
  hFieldAddr Tryz.prog 48 v31_31 1 fun v32_32 =>
  loadK Tryz.prog 3 v32_32 h fun v33_33 =>
  binK Tryz.prog .eql 3 (.tmp 33) (.const (.int .i64 (.ofNat 0))) v33_33 (.int .i64 (.ofNat 0)) fun v34_34 =>
  H59_g21 k  v13_8 v29_20 (some v31_31) (some v32_32) (some v33_33) (some v34_34) (some v34_34) h nx) (fun _ => H59_g21 k  v13_8 v29_20 none none none none none h nx)
noncomputable def H59_g15 (k : KV)  (v1_1 : Value) (v13_8 : Value) (v17_14 : Value) (o19_16 : Option Value) (o20_16 : Option Value) (o21_16 : Option Value) (o22_16 : Option Value) (h : Heap) (nx : Nat) : Bool :=
  hPick v17_14 (some (.bool true)) o22_16 fun v23_17 =>
  hG (some v23_17) false (fun _ => hFieldAddr Tryz.prog 55 v1_1 2 fun v25_35 =>
  loadK Tryz.prog 53 v25_35 h fun v26_36 =>
  H100 v26_36 h nx fun v27_37 h37 nx37 =>
  binK Tryz.prog .neq 44 (.tmp 27) (.const (.int .i64 (.ofNat 0))) v27_37 (.int .i64 (.ofNat 0)) fun v28_38 =>
  H59_g18 k  v1_1 v13_8 v23_17 (some v25_35) (some v26_36) (some v27_37) (some v28_38) h37 nx37) (fun _ => H59_g18 k  v1_1 v13_8 v23_17 none none none none h nx)
noncomputable def H59_g6 (k : KV)  (v1_1 : Value) (v7_5 : Value) (o9_7 : Option Value) (o10_7 : Option Value) (o11_7 : Option Value) (o12_7 : Option Value) (h : Heap) (nx : Nat) : Bool :=
  hPick v7_5 o12_7 (some (.bool false)) fun v13_8 =>
  hFieldAddr Tryz.prog 55 v1_1 0 fun v14_11 =>
  loadK Tryz.prog 48 v14_11 h fun v15_12 =>
  H98 v15_12 h nx fun v16_13 h13 nx13 =>
  binK Tryz.prog .neq 44 (.tmp 16) (.const (.int .i64 (.ofNat 0))) v16_13 (.int .i64 (.ofNat 0)) fun v17_14 =>
  hG (some v17_14) false (fun _ => hFieldAddr Tryz.prog 55 v1_1 1 fun v19_39 =>
  loadK Tryz.prog 51 v19_39 h13 fun v20_40 =>
  H99 v20_40 h13 nx13 fun v21_41 h41 nx41 =>
  binK Tryz.prog .neq 44 (.tmp 21) (.const (.int .i64 (.ofNat 0))) v21_41 (.int .i64 (.ofNat 0)) fun v22_42 =>
  H59_g15 k  v1_1 v13_8 v17_14 (some v19_39) (some v20_40) (some v21_41) (some v22_42) h41 nx41) (fun _ => H59_g15 k  v1_1 v13_8 v17_14 none none none none h13 nx13)
noncomputable def H59 (a0 : Value) (h : Heap) (nx : Nat) (k : KV) : Bool :=
  hBox a0 h nx fun v1_1 h1 nx1 =>
  hFieldAddr Tryz.prog 55 v1_1 1 fun v4_2 =>
  loadK Tryz.prog 51 v4_2 h1 fun v5_3 =>
  hBuild Tryz.prog 51 [] fun v6_4 =>
  H97 v5_3 v6_4 h1 nx1 fun v7_5 h5 nx5 =>
  hG (some v7_5) true (fun _ => hFieldAddr Tryz.prog 55 v1_1 2 fun v9_43 =>
  loadK Tryz.prog 53 v9_43 h5 fun v10_44 =>
  hBuild Tryz.prog 53 [] fun v11_45 =>
  binK Tryz.prog .eql 53 (.tmp 10) (.tmp 11) v10_44 v11_45 fun v12_46 =>
  H59_g6 k  v1_1 v7_5 (some v9_43) (some v10_44) (some v11_45) (some v12_46) h5 nx5) (fun _ => H59_g6 k  v1_1 v7_5 none none none none h5 nx5)
theorem sim59 {a0 : Value} {h : Heap} {nx : Nat} {k : KV} (H : H59 a0 h nx k = true) : ∃ v h' nx', k v h' nx' = true ∧ CallSim Tryz.prog 59 [a0] h nx v h' nx' := by
  refine fn_rule Tryz.func59 rfl rfl ?_
  refine CJ.seq ?_
  refine CJ.region ?_
  refine OJ.fu rfl rfl rfl (r_box rfl rfl H) ?_
  intro v1_1 h1 nx1 H
  refine OJ.mv rfl rfl rfl (r_assign rfl rfl) ?_
  refine OJ.fin ?_
  refine CJ.seq ?_
  refine CJ.region ?_
  refine OJ.rd rfl rfl rfl (r_fieldAddr rfl rfl H) ?_
  intro v4_2 H
  refine OJ.rd rfl rfl rfl (r_load rfl rfl H) ?_
  intro v5_3 H
  refine OJ.rd rfl rfl rfl (r_build (vs := []) rfl True.intro H) ?_
  intro v6_4 H
  refine OJ.fu rfl rfl rfl (r_call (args := [v5_3, v6_4]) rfl rfl rfl (And.intro rfl (And.intro rfl True.intro)) Tryz.call97 (sim97 H)) ?_
  intro v7_5 h5 nx5 H
  refine OJ.mv rfl rfl rfl (r_move rfl rfl) ?_
  refine OJ.cut (X := Option Value × Option Value × Option Value × Option Value × Unit) 4 (fun x h nx => H59_g6 k  v1_1 v7_5 x.1 x.2.1 x.2.2.1 x.2.2.2.1 h nx) (fun x => [(9, x.1), (10, x.2.1), (11, x.2.2.1), (12, x.2.2.2.1), (1, (some v1_1)), (8, (some v7_5))]) ?_ (fun next => ?_)
  · intro ⟨o9_7, o10_7, o11_7, o12_7, _u⟩ h nx H
    refine OJ.rd rfl rfl rfl (r_pick rfl rfl rfl rfl H) ?_
    intro v13_8 H
    refine OJ.mv rfl rfl rfl (r_assign rfl rfl) ?_
    refine OJ.fin ?_
    refine CJ.seq (CJ.cut (X := Unit) (fun x h nx => H59_j9 k   h nx) (fun x => []) ?_ ?_)
    · refine CJ.seq ?_
      refine CJ.region ?_
      refine OJ.rd rfl rfl rfl (r_fieldAddr rfl rfl H) ?_
      intro v14_11 H
      refine OJ.rd rfl rfl rfl (r_load rfl rfl H) ?_
      intro v15_12 H
      refine OJ.fu rfl rfl rfl (r_call (args := [v15_12]) rfl rfl rfl (And.intro rfl True.intro) Tryz.call98 (sim98 H)) ?_
      intro v16_13 h13 nx13 H
      refine OJ.rd rfl rfl rfl (r_bin rfl rfl rfl H) ?_
      intro v17_14 H
      refine OJ.mv rfl rfl rfl (r_move rfl rfl) ?_
      refine OJ.cut (X := Option Value × Option Value × Option Value × Option Value × Unit) 4 (fun x h nx => H59_g15 k  v1_1 v13_8 v17_14 x.1 x.2.1 x.2.2.1 x.2.2.2.1 h nx) (fun x => [(19, x.1), (20, x.2.1), (21, x.2.2.1), (22, x.2.2.2.1), (1, (some v1_1)), (3, (some v13_8)), (18, (some v17_14))]) ?_ (fun next => ?_)
      · intro ⟨o19_16, o20_16, o21_16, o22_16, _u⟩ h nx H
        refine OJ.rd rfl rfl rfl (r_pick rfl rfl rfl rfl H) ?_
        intro v23_17 H
        refine OJ.mv rfl rfl rfl (r_move rfl rfl) ?_
        refine OJ.cut (X := Option Value × Option Value × Option Value × Option Value × Unit) 4 (fun x h nx => H59_g18 k  v1_1 v13_8 v23_17 x.1 x.2.1 x.2.2.1 x.2.2.2.1 h nx) (fun x => [(25, x.1), (26, x.2.1), (27, x.2.2.1), (28, x.2.2.2.1), (1, (some v1_1)), (3, (some v13_8)), (24, (some v23_17))]) ?_ (fun next => ?_)
        · intro ⟨o25_19, o26_19, o27_19, o28_19, _u⟩ h nx H
          refine OJ.rd rfl rfl rfl (r_pick rfl rfl rfl rfl H) ?_
          intro v29_20 H
          refine OJ.mv rfl rfl rfl (r_move rfl rfl) ?_
          refine OJ.cut (X := Option Value × Option Value × Option Value × Option Value × Option Value × Unit) 5 (fun x h nx => H59_g21 k  v13_8 v29_20 x.1 x.2.1 x.2.2.1 x.2.2.2.1 x.2.2.2.2.1 h nx) (fun x => [(31, x.1), (32, x.2.1), (33, x.2.2.1), (34, x.2.2.2.1), (35, x.2.2.2.2.1), (3, (some v13_8)), (30, (some v29_20))]) ?_ (fun next => ?_)
          · intro ⟨o31_22, o32_22, o33_22, o34_22, o35_22, _u⟩ h nx H
            refine OJ.cut (X := Option Value × Option Value × Unit) 2 (fun x h nx => H59_g23 k  v29_20 o35_22 x.1 x.2.1 h nx) (fun x => [(36, x.1), (37, x.2.1), (30, (some v29_20)), (35, o35_22)]) ?_ (fun next => ?_)
            · intro ⟨o36_24, o37_24, _u⟩ h nx H
              refine OJ.cut (X := Option Value × Unit) 1 (fun x h nx => H59_g25 k  v29_20 x.1 h nx) (fun x => [(38, x.1), (30, (some v29_20))]) ?_ (fun next => ?_)
              · intro ⟨o38_26, _u⟩ h nx H
                refine OJ.rd rfl rfl rfl (r_pick rfl rfl rfl rfl H) ?_
                intro v39_27 H
                refine OJ.fin ?_
                refine CJ.ite rfl H (fun H => ?_) (fun H => ?_)
                · cases H
                · exact CJ.skip [] True.intro (Exists.intro () (And.intro rfl H))
              · rcases hG_true H with ⟨g, H⟩ | ⟨g, H⟩
                · obtain ⟨v35_28, eq_, G_⟩ := optK_true H
                  clear H
                  subst eq_
                  have H := G_
                  clear G_
                  refine OJ.grd rfl rfl rfl g rfl rfl (r_pick rfl rfl rfl rfl H) ?_
                  intro v38_29 H
                  exact OJ.weaken [(38, (some v38_29)), (30, (some v29_20))] (And.intro rfl (And.intro rfl True.intro)) (next ((some v38_29), ()) _ _ H)
                · refine OJ.no rfl rfl rfl g rfl rfl ?_
                  exact OJ.weaken [(38, none), (30, (some v29_20))] (And.intro rfl (And.intro rfl True.intro)) (next (none, ()) _ _ H)
            · rcases hG_true H with ⟨g, H⟩ | ⟨g, H⟩
              · refine OJ.gmv rfl rfl rfl g rfl rfl (r_move rfl rfl) ?_
                refine OJ.grd rfl rfl rfl g rfl rfl (r_un rfl rfl H) ?_
                intro v37_30 H
                exact OJ.weaken [(36, (some v13_8)), (37, (some v37_30)), (30, (some v29_20)), (35, o35_22)] (And.intro rfl (And.intro rfl (And.intro rfl (And.intro rfl True.intro)))) (next ((some v13_8), (some v37_30), ()) _ _ H)
              · refine OJ.no rfl rfl rfl g rfl rfl ?_
                refine OJ.no rfl rfl rfl g rfl rfl ?_
                exact OJ.weaken [(36, none), (37, none), (30, (some v29_20)), (35, o35_22)] (And.intro rfl (And.intro rfl (And.intro rfl (And.intro rfl True.intro)))) (next (none, none, ()) _ _ H)
          · rcases hG_true H with ⟨g, H⟩ | ⟨g, H⟩
            · refine OJ.grd rfl rfl rfl g rfl rfl (r_fieldAddr rfl rfl H) ?_
              intro v31_31 H
              refine OJ.grd rfl rfl rfl g rfl rfl (r_fieldAddr rfl rfl H) ?_
              intro v32_32 H
              refine OJ.grd rfl rfl rfl g rfl rfl (r_load rfl rfl H) ?_
              intro v33_33 H
              refine OJ.grd rfl rfl rfl g rfl rfl (r_bin rfl rfl rfl H) ?_
              intro v34_34 H
              refine OJ.gmv rfl rfl rfl g rfl rfl (r_move rfl rfl) ?_
              exact OJ.weaken [(31, (some v31_31)), (32, (some v32_32)), (33, (some v33_33)), (34, (some v34_34)), (35, (some v34_34)), (3, (some v13_8)), (30, (some v29_20))] (And.intro rfl (And.intro rfl (And.intro rfl (And.intro rfl (And.intro rfl (And.intro rfl (And.intro rfl True.intro))))))) (next ((some v31_31), (some v32_32), (some v33_33), (some v34_34), (some v34_34), ()) _ _ H)
            · refine OJ.no rfl rfl rfl g rfl rfl ?_
              refine OJ.no rfl rfl rfl g rfl rfl ?_
              refine OJ.no rfl rfl rfl g rfl rfl ?_
              refine OJ.no rfl rfl rfl g rfl rfl ?_
              refine OJ.no rfl rfl rfl g rfl rfl ?_
              exact OJ.weaken [(31, none), (32, none), (33, none), (34, none), (35, none), (3, (some v13_8)), (30, (some v29_20))] (And.intro rfl (And.intro rfl (And.intro rfl (And.intro rfl (And.intro rfl (And.intro rfl (And.intro rfl True.intro))))))) (next (none, none, none, none, none, ()) _ _ H)
        · rcases hG_true H with ⟨g, H⟩ | ⟨g, H⟩
          · refine OJ.grd rfl rfl rfl g rfl rfl (r_fieldAddr rfl rfl H) ?_
            intro v25_35 H
            refine OJ.grd rfl rfl rfl g rfl rfl (r_load rfl rfl H) ?_
            intro v26_36 H
            refine OJ.gfu rfl rfl rfl g rfl rfl (r_call (args := [v26_36]) rfl rfl rfl (And.intro rfl True.intro) Tryz.call100 (sim100 H)) ?_
            intro v27_37 h37 nx37 H
            refine OJ.grd rfl rfl rfl g rfl rfl (r_bin rfl rfl rfl H) ?_
            intro v28_38 H
            exact OJ.weaken [(25, (some v25_35)), (26, (some v26_36)), (27, (some v27_37)), (28, (some v28_38)), (1, (some v1_1)), (3, (some v13_8)), (24, (some v23_17))] (And.intro rfl (And.intro rfl (And.intro rfl (And.intro rfl (And.intro rfl (And.intro rfl (And.intro rfl True.intro))))))) (next ((some v25_35), (some v26_36), (some v27_37), (some v28_38), ()) _ _ H)
          · refine OJ.no rfl rfl rfl g rfl rfl ?_
            refine OJ.no rfl rfl rfl g rfl rfl ?_
            refine OJ.no rfl rfl rfl g rfl rfl ?_
            refine OJ.no rfl rfl rfl g rfl rfl ?_
            exact OJ.weaken [(25, none), (26, none), (27, none), (28, none), (1, (some v1_1)), (3, (some v13_8)), (24, (some v23_17))] (And.intro rfl (And.intro rfl (And.intro rfl (And.intro rfl (And.intro rfl (And.intro rfl (And.intro rfl True.intro))))))) (next (none, none, none, none, ()) _ _ H)
      · rcases hG_true H with ⟨g, H⟩ | ⟨g, H⟩
        · refine OJ.grd rfl rfl rfl g rfl rfl (r_fieldAddr rfl rfl H) ?_
          intro v19_39 H
          refine OJ.grd rfl rfl rfl g rfl rfl (r_load rfl rfl H) ?_
          intro v20_40 H
          refine OJ.gfu rfl rfl rfl g rfl rfl (r_call (args := [v20_40]) rfl rfl rfl (And.intro rfl True.intro) Tryz.call99 (sim99 H)) ?_
          intro v21_41 h41 nx41 H
          refine OJ.grd rfl rfl rfl g rfl rfl (r_bin rfl rfl rfl H) ?_
          intro v22_42 H
          exact OJ.weaken [(19, (some v19_39)), (20, (some v20_40)), (21, (some v21_41)), (22, (some v22_42)), (1, (some v1_1)), (3, (some v13_8)), (18, (some v17_14))] (And.intro rfl (And.intro rfl (And.intro rfl (And.intro rfl (And.intro rfl (And.intro rfl (And.intro rfl True.intro))))))) (next ((some v19_39), (some v20_40), (some v21_41), (some v22_42), ()) _ _ H)
        · refine OJ.no rfl rfl rfl g rfl rfl ?_
          refine OJ.no rfl rfl rfl g rfl rfl ?_
          refine OJ.no rfl rfl rfl g rfl rfl ?_
          refine OJ.no rfl rfl rfl g rfl rfl ?_
          exact OJ.weaken [(19, none), (20, none), (21, none), (22, none), (1, (some v1_1)), (3, (some v13_8)), (18, (some v17_14))] (And.intro rfl (And.intro rfl (And.intro rfl (And.intro rfl (And.intro rfl (And.intro rfl (And.intro rfl True.intro))))))) (next (none, none, none, none, ()) _ _ H)
    · intro _u h nx H
      refine CJ.seq ?_
      refine CJ.region ?_
      refine OJ.mv rfl rfl rfl (r_assign rfl rfl) ?_
      refine OJ.fin ?_
      refine CJ.ret1 ?_
      exact ret_one (Or.inr rfl) rfl rfl H
  · rcases hG_true H with ⟨g, H⟩ | ⟨g, H⟩
    · refine OJ.grd rfl rfl rfl g rfl rfl (r_fieldAddr rfl rfl H) ?_
      intro v9_43 H
      refine OJ.grd rfl rfl rfl g rfl rfl (r_load rfl rfl H) ?_
      intro v10_44 H
      refine OJ.grd rfl rfl rfl g rfl rfl (r_build (vs := []) rfl True.intro H) ?_
      intro v11_45 H
      refine OJ.grd rfl rfl rfl g rfl rfl (r_bin rfl rfl rfl H) ?_
      intro v12_46 H
      exact OJ.weaken [(9, (some v9_43)), (10, (some v10_44)), (11, (some v11_45)), (12, (some v12_46)), (1, (some v1_1)), (8, (some v7_5))] (And.intro rfl (And.intro rfl (And.intro rfl (And.intro rfl (And.intro rfl (And.intro rfl True.intro)))))) (next ((some v9_43), (some v10_44), (some v11_45), (some v12_46), ()) _ _ H)
    · refine OJ.no rfl rfl rfl g rfl rfl ?_
      refine OJ.no rfl rfl rfl g rfl rfl ?_
      refine OJ.no rfl rfl rfl g rfl rfl ?_
      refine OJ.no rfl rfl rfl g rfl rfl ?_
      exact OJ.weaken [(9, none), (10, none), (11, none), (12, none), (1, (some v1_1)), (8, (some v7_5))] (And.intro rfl (And.intro rfl (And.intro rfl (And.intro rfl (And.intro rfl (And.intro rfl True.intro)))))) (next (none, none, none, none, ()) _ _ H)

/-! 60 -/
noncomputable def H60_j2 (k : KV)   (h : Heap) (nx : Nat) : Bool :=
  k (.int .i64 (.ofNat 0)) h nx
noncomputable def H60_g13 (k : KV)  (v15_12 : Value) (o17_14 : Option Value) (o18_14 : Option Value) (o19_14 : Option Value) (h : Heap) (nx : Nat) : Bool :=
  hPick v15_12 (some (.bool true)) o19_14 fun v20_15 =>
  hIf v20_15 (fun _ => false) (fun _ => H60_j2 k   h nx)
noncomputable def H60_g10 (k : KV)  (v1_1 : Value) (v10_9 : Value) (o12_11 : Option Value) (o13_11 : Option Value) (o14_11 : Option Value) (h : Heap) (nx : Nat) : Bool :=
  hPick v10_9 (some (.bool true)) o14_11 fun v15_12 =>
  hG (some v15_12) false (fun _ => hFieldAddr Tryz.prog 57 v1_1 1 fun v17_16 =>
  loadK Tryz.prog 3 v17_16 h fun v18_17 =>
  binK Tryz.prog .geq 3 (.tmp 18) (.const (.int .i64 (.ofNat 2))) v18_17 (.int .i64 (.ofNat 2)) fun v19_18 =>
  H60_g13 k  v15_12 (some v17_16) (some v18_17) (some v19_18) h nx) (fun _ => H60_g13 k  v15_12 none none none h nx)
noncomputable def H60_g7 (k : KV)  (v1_1 : Value) (v5_6 : Value) (o7_8 : Option Value) (o8_8 : Option Value) (o9_8 : Option Value) (h : Heap) (nx : Nat) : Bool :=
  hPick v5_6 (some (.bool true)) o9_8 fun v10_9 =>
  hG (some v10_9) false (fun _ => hFieldAddr Tryz.prog 57 v1_1 1 fun v12_19 =>
  loadK Tryz.prog 3 v12_19 h fun v13_20 =>
  binK Tryz.prog .lss 3 (.tmp 13) (.const (.int .i64 (.ofNat 0))) v13_20 (.int .i64 (.ofNat 0)) fun v14_21 =>
  H60_g10 k  v1_1 v10_9 (some v12_19) (some v13_20) (some v14_21) h nx) (fun _ => H60_g10 k  v1_1 v10_9 none none none h nx)
noncomputable def H60 (a0 : Value) (h : Heap) (nx : Nat) (k : KV) : Bool :=
  hBox a0 h nx fun v1_1 h1 nx1 =>
  hFieldAddr Tryz.prog 57 v1_1 0 fun v3_4 =>
  loadK Tryz.prog 3 v3_4 h1 fun v4_5 =>
  binK Tryz.prog .lss 3 (.tmp 4) (.const (.int .i64 (.ofNat 0))) v4_5 (.int .i64 (.ofNat 0)) fun v5_6 =>
  hG (some v5_6) false (fun _ => hFieldAddr Tryz.prog 57 v1_1 0 fun v7_22 =>
  loadK Tryz.prog 3 v7_22 h1 fun v8_23 =>
  binK Tryz.prog .geq 3 (.tmp 8) (.const (.int .i64 (.ofNat 6))) v8_23 (.int .i64 (.ofNat 6)) fun v9_24 =>
  H60_g7 k  v1_1 v5_6 (some v7_22) (some v8_23) (some v9_24) h1 nx1) (fun _ => H60_g7 k  v1_1 v5_6 none none none h1 nx1)
theorem sim60 {a0 : Value} {h : Heap} {nx : Nat} {k : KV} (H : H60 a0 h nx k = true) : ∃ v h' nx', k v h' nx' = true ∧ CallSim Tryz.prog 60 [a0] h nx v h' nx' := by
  refine fn_rule Tryz.func60 rfl rfl ?_
  refine CJ.seq ?_
  refine CJ.region ?_
  refine OJ.fu rfl rfl rfl (r_box rfl rfl H) ?_
  intro v1_1 h1 nx1 H
  refine OJ.mv rfl rfl rfl (r_assign rfl rfl) ?_
  refine OJ.fin ?_
  refine CJ.seq (CJ.cut (X := Unit) (fun x h nx => H60_j2 k   h nx) (fun x => []) ?_ ?_)
  · refine CJ.seq ?_
    refine CJ.region ?_
    refine OJ.rd rfl rfl rfl (r_fieldAddr rfl rfl H) ?_
    intro v3_4 H
    refine OJ.rd rfl rfl rfl (r_load rfl rfl H) ?_
    intro v4_5 H
    refine OJ.rd rfl rfl rfl (r_bin rfl rfl rfl H) ?_
    intro v5_6 H
    refine OJ.mv rfl rfl rfl (r_move rfl rfl) ?_
    refine OJ.cut (X := Option Value × Option Value × Option Value × Unit) 3 (fun x h nx => H60_g7 k  v1_1 v5_6 x.1 x.2.1 x.2.2.1 h nx) (fun x => [(7, x.1), (8, x.2.1), (9, x.2.2.1), (1, (some v1_1)), (6, (some v5_6))]) ?_ (fun next => ?_)
    · intro ⟨o7_8, o8_8, o9_8, _u⟩ h nx H
      refine OJ.rd rfl rfl rfl (r_pick rfl rfl rfl rfl H) ?_
      intro v10_9 H
      refine OJ.mv rfl rfl rfl (r_move rfl rfl) ?_
      refine OJ.cut (X := Option Value × Option Value × Option Value × Unit) 3 (fun x h nx => H60_g10 k  v1_1 v10_9 x.1 x.2.1 x.2.2.1 h nx) (fun x => [(12, x.1), (13, x.2.1), (14, x.2.2.1), (1, (some v1_1)), (11, (some v10_9))]) ?_ (fun next => ?_)
      · intro ⟨o12_11, o13_11, o14_11, _u⟩ h nx H
        refine OJ.rd rfl rfl rfl (r_pick rfl rfl rfl rfl H) ?_
        intro v15_12 H
        refine OJ.mv rfl rfl rfl (r_move rfl rfl) ?_
        refine OJ.cut (X := Option Value × Option Value × Option Value × Unit) 3 (fun x h nx => H60_g13 k  v15_12 x.1 x.2.1 x.2.2.1 h nx) (fun x => [(17, x.1), (18, x.2.1), (19, x.2.2.1), (16, (some v15_12))]) ?_ (fun next => ?_)
        · intro ⟨o17_14, o18_14, o19_14, _u⟩ h nx H
          refine OJ.rd rfl rfl rfl (r_pick rfl rfl rfl rfl H) ?_
          intro v20_15 H
          refine OJ.fin ?_
          refine CJ.ite rfl H (fun H => ?_) (fun H => ?_)
          · cases H
          · exact CJ.skip [] True.intro (Exists.intro () (And.intro rfl H))
        · rcases hG_true H with ⟨g, H⟩ | ⟨g, H⟩
          · refine OJ.grd rfl rfl rfl g rfl rfl (r_fieldAddr rfl rfl H) ?_
            intro v17_16 H
            refine OJ.grd rfl rfl rfl g rfl rfl (r_load rfl rfl H) ?_
            intro v18_17 H
            refine OJ.grd rfl rfl rfl g rfl rfl (r_bin rfl rfl rfl H) ?_
            intro v19_18 H
            exact OJ.weaken [(17, (some v17_16)), (18, (some v18_17)), (19, (some v19_18)), (16, (some v15_12))] (And.intro rfl (And.intro rfl (And.intro rfl (And.intro rfl True.intro)))) (next ((some v17_16), (some v18_17), (some v19_18), ()) _ _ H)
          · refine OJ.no rfl rfl rfl g rfl rfl ?_
            refine OJ.no rfl rfl rfl g rfl rfl ?_
            refine OJ.no rfl rfl rfl g rfl rfl ?_
            exact OJ.weaken [(17, none), (18, none), (19, none), (16, (some v15_12))] (And.intro rfl (And.intro rfl (And.intro rfl (And.intro rfl True.intro)))) (next (none, none, none, ()) _ _ H)
      · rcases hG_true H with ⟨g, H⟩ | ⟨g, H⟩
        · refine OJ.grd rfl rfl rfl g rfl rfl (r_fieldAddr rfl rfl H) ?_
          intro v12_19 H
          refine OJ.grd rfl rfl rfl g rfl rfl (r_load rfl rfl H) ?_
          intro v13_20 H
          refine OJ.grd rfl rfl rfl g rfl rfl (r_bin rfl rfl rfl H) ?_
          intro v14_21 H
          exact OJ.weaken [(12, (some v12_19)), (13, (some v13_20)), (14, (some v14_21)), (1, (some v1_1)), (11, (some v10_9))] (And.intro rfl (And.intro rfl (And.intro rfl (And.intro rfl (And.intro rfl True.intro))))) (next ((some v12_19), (some v13_20), (some v14_21), ()) _ _ H)
        · refine OJ.no rfl rfl rfl g rfl rfl ?_
          refine OJ.no rfl rfl rfl g rfl rfl ?_
          refine OJ.no rfl rfl rfl g rfl rfl ?_
          exact OJ.weaken [(12, none), (13, none), (14, none), (1, (some v1_1)), (11, (some v10_9))] (And.intro rfl (And.intro rfl (And.intro rfl (And.intro rfl (And.intro rfl True.intro))))) (next (none, none, none, ()) _ _ H)
    · rcases hG_true H with ⟨g, H⟩ | ⟨g, H⟩
      · refine OJ.grd rfl rfl rfl g rfl rfl (r_fieldAddr rfl rfl H) ?_
        intro v7_22 H
        refine OJ.grd rfl rfl rfl g rfl rfl (r_load rfl rfl H) ?_
        intro v8_23 H
        refine OJ.grd rfl rfl rfl g rfl rfl (r_bin rfl rfl rfl H) ?_
        intro v9_24 H
        exact OJ.weaken [(7, (some v7_22)), (8, (some v8_23)), (9, (some v9_24)), (1, (some v1_1)), (6, (some v5_6))] (And.intro rfl (And.intro rfl (And.intro rfl (And.intro rfl (And.intro rfl True.intro))))) (next ((some v7_22), (some v8_23), (some v9_24), ()) _ _ H)
      · refine OJ.no rfl rfl rfl g rfl rfl ?_
        refine OJ.no rfl rfl rfl g rfl rfl ?_
        refine OJ.no rfl rfl rfl g rfl rfl ?_
        exact OJ.weaken [(7, none), (8, none), (9, none), (1, (some v1_1)), (6, (some v5_6))] (And.intro rfl (And.intro rfl (And.intro rfl (And.intro rfl (And.intro rfl True.intro))))) (next (none, none, none, ()) _ _ H)
  · intro _u h nx H
    refine CJ.seq ?_
    refine CJ.region ?_
    refine OJ.mv rfl rfl rfl (r_assign rfl rfl) ?_
    refine OJ.fin ?_
    refine CJ.ret1 ?_
    exact ret_one (Or.inr rfl) rfl rfl H

/-! 30 -/
noncomputable def H30_j2 (k : KV)   (h : Heap) (nx : Nat) : Bool :=
  k (.int .i64 (.ofNat 0)) h nx
noncomputable def H30_g26 (k : KV)  (v32_21 : Value) (o44_27 : Option Value) (h : Heap) (nx : Nat) : Bool :=
  hPick v32_21 (some (.bool true)) o44_27 fun v45_28 =>
  hIf v45_28 (fun _ => false) (fun _ => H30_j2 k   h nx)
noncomputable def H30_g24 (k : KV)  (v32_21 : Value) (o39_23 : Option Value) (o40_25 : Option Value) (o41_25 : Option Value) (o42_25 : Option Value) (o43_25 : Option Value) (h : Heap) (nx : Nat) : Bool :=
  hG (some v32_21) false (fun _ => optK o39_23 fun v39_29 =>
  hPick v39_29 o43_25 (some (.bool false)) fun v44_30 =>
  H30_g26 k  v32_21 (some v44_30) h nx) (fun _ => H30_g26 k  v32_21 none h nx)
noncomputable def H30_g22 (k : KV)  (v1_1 : Value) (v32_21 : Value) (o34_23 : Option Value) (o35_23 : Option Value) (o36_23 : Option Value) (o37_23 : Option Value) (o38_23 : Option Value) (o39_23 : Option Value) (h : Heap) (nx : Nat) : Bool :=
  hG o39_23 true (fun _ => hFieldAddr Tryz.prog 59 v1_1 3 fun v40_31 =>
  loadK Tryz.prog 57 v40_31 h fun v41_32 =>
  hBuild Tryz.prog 57 [] fun v42_33 =>
  binK Tryz.prog .neq 57 (.tmp 41) (.tmp 42) v41_32 v42_33 fun v43_34 =>
  H30_g24 k  v32_21 o39_23 (some v40_31) (some v41_32) (some v42_33) (some v43_34) h nx) (fun _ => H30_g24 k  v32_21 o39_23 none none none none h nx)
noncomputable def H30_g19 (k : KV)  (v1_1 : Value) (v26_18 : Value) (o28_20 : Option Value) (o29_20 : Option Value) (o30_20 : Option Value) (o31_20 : Option Value) (h : Heap) (nx : Nat) : Bool :=
  hPick v26_18 (some (.bool true)) o31_20 fun v32_21 =>
  hG (some v32_21) false (fun _ => hFieldAddr Tryz.prog 59 v1_1 2 fun v34_35 =>
  hFieldAddr Tryz.prog 55 v34_35 0 fun v35_36 =>
  hFieldAddr Tryz.prog 48 v35_36 1 fun v36_37 =>
  loadK Tryz.prog 3 v36_37 h fun v37_38 =>
  binK Tryz.prog .eql 3 (.tmp 37) (.const (.int .i64 (.ofNat 0))) v37_38 (.int .i64 (.ofNat 0)) fun v38_39 =>
  H30_g22 k  v1_1 v32_21 (some v34_35) (some v35_36) (some v36_37) (some v37_38) (some v38_39) (some v38_39) h nx) (fun _ => H30_g22 k  v1_1 v32_21 none none none none none none h nx)
noncomputable def H30_g16 (k : KV)  (v1_1 : Value) (v20_15 : Value) (o22_17 : Option Value) (o23_17 : Option Value) (o24_17 : Option Value) (o25_17 : Option Value) (h : Heap) (nx : Nat) : Bool :=
  hPick v20_15 (some (.bool true)) o25_17 fun v26_18 =>
  hG (some v26_18) false (fun _ => hFieldAddr Tryz.prog 59 v1_1 3 fun v28_40 =>
  loadK Tryz.prog 57 v28_40 h fun v29_41 =>
  H60 v29_41 h nx fun v30_42 h42 nx42 =>
  binK Tryz.prog .neq 44 (.tmp 30) (.const (.int .i64 (.ofNat 0))) v30_42 (.int .i64 (.ofNat 0)) fun v31_43 =>
  H30_g19 k  v1_1 v26_18 (some v28_40) (some v29_41) (some v30_42) (some v31_43) h42 nx42) (fun _ => H30_g19 k  v1_1 v26_18 none none none none h nx)
noncomputable def H30_g13 (k : KV)  (v1_1 : Value) (v15_12 : Value) (o17_14 : Option Value) (o18_14 : Option Value) (o19_14 : Option Value) (h : Heap) (nx : Nat) : Bool :=
  hPick v15_12 (some (.bool true)) o19_14 fun v20_15 =>
  hG (some v20_15) false (fun _ => hFieldAddr Tryz.prog 59 v1_1 2 fun v22_44 =>
  loadK Tryz.prog 55 v22_44 h fun v23_45 =>
  H59 v23_45 h nx fun v24_46 h46 nx46 =>
  binK Tryz.prog .neq 44 (.tmp 24) (.const (.int .i64 (.ofNat 0))) v24_46 (.int .i64 (.ofNat 0)) fun v25_47 =>
  H30_g16 k  v1_1 v20_15 (some v22_44) (some v23_45) (some v24_46) (some v25_47) h46 nx46) (fun _ => H30_g16 k  v1_1 v20_15 none none none none h nx)
noncomputable def H30_g10 (k : KV)  (v1_1 : Value) (v10_9 : Value) (o12_11 : Option Value) (o13_11 : Option Value) (o14_11 : Option Value) (h : Heap) (nx : Nat) : Bool :=
  hPick v10_9 (some (.bool true)) o14_11 fun v15_12 =>
  hG (some v15_12) false (fun _ => hFieldAddr Tryz.prog 59 v1_1 1 fun v17_48 =>
  loadK Tryz.prog 3 v17_48 h fun v18_49 =>
  binK Tryz.prog .gtr 3 (.tmp 18) (.const (.int .i64 (.ofNat 2147483647))) v18_49 (.int .i64 (.ofNat 2147483647)) fun v19_50 =>
  H30_g13 k  v1_1 v15_12 (some v17_48) (some v18_49) (some v19_50) h nx) (fun _ => H30_g13 k  v1_1 v15_12 none none none h nx)
noncomputable def H30_g7 (k : KV)  (v1_1 : Value) (v5_6 : Value) (o7_8 : Option Value) (o8_8 : Option Value) (o9_8 : Option Value) (h : Heap) (nx : Nat) : Bool :=
  hPick v5_6 (some (.bool true)) o9_8 fun v10_9 =>
  hG (some v10_9) false (fun _ => hFieldAddr Tryz.prog 59 v1_1 1 fun v12_51 =>
  loadK Tryz.prog 3 v12_51 h fun v13_52 =>
  binK Tryz.prog .lss 3 (.tmp 13) (.const (.int .i64 (.ofNat 0))) v13_52 (.int .i64 (.ofNat 0)) fun v14_53 =>
  H30_g10 k  v1_1 v10_9 (some v12_51) (some v13_52) (some v14_53) h nx) (fun _ => H30_g10 k  v1_1 v10_9 none none none h nx)
noncomputable def H30 (a0 : Value) (h : Heap) (nx : Nat) (k : KV) : Bool :=
  hBox a0 h nx fun v1_1 h1 nx1 =>
  hFieldAddr Tryz.prog 59 v1_1 0 fun v3_4 =>
  loadK Tryz.prog 3 v3_4 h1 fun v4_5 =>
  binK Tryz.prog .lss 3 (.tmp 4) (.const (.int .i64 (.ofNat 1))) v4_5 (.int .i64 (.ofNat 1)) fun v5_6 =>
  hG (some v5_6) false (fun _ => hFieldAddr Tryz.prog 59 v1_1 0 fun v7_54 =>
  loadK Tryz.prog 3 v7_54 h1 fun v8_55 =>
  binK Tryz.prog .gtr 3 (.tmp 8) (.const (.int .i64 (.ofNat 64))) v8_55 (.int .i64 (.ofNat 64)) fun v9_56 =>
  H30_g7 k  v1_1 v5_6 (some v7_54) (some v8_55) (some v9_56) h1 nx1) (fun _ => H30_g7 k  v1_1 v5_6 none none none h1 nx1)
theorem sim30 {a0 : Value} {h : Heap} {nx : Nat} {k : KV} (H : H30 a0 h nx k = true) : ∃ v h' nx', k v h' nx' = true ∧ CallSim Tryz.prog 30 [a0] h nx v h' nx' := by
  refine fn_rule Tryz.func30 rfl rfl ?_
  refine CJ.seq ?_
  refine CJ.region ?_
  refine OJ.fu rfl rfl rfl (r_box rfl rfl H) ?_
  intro v1_1 h1 nx1 H
  refine OJ.mv rfl rfl rfl (r_assign rfl rfl) ?_
  refine OJ.fin ?_
  refine CJ.seq (CJ.cut (X := Unit) (fun x h nx => H30_j2 k   h nx) (fun x => []) ?_ ?_)
  · refine CJ.seq ?_
    refine CJ.region ?_
    refine OJ.rd rfl rfl rfl (r_fieldAddr rfl rfl H) ?_
    intro v3_4 H
    refine OJ.rd rfl rfl rfl (r_load rfl rfl H) ?_
    intro v4_5 H
    refine OJ.rd rfl rfl rfl (r_bin rfl rfl rfl H) ?_
    intro v5_6 H
    refine OJ.mv rfl rfl rfl (r_move rfl rfl) ?_
    refine OJ.cut (X := Option Value × Option Value × Option Value × Unit) 3 (fun x h nx => H30_g7 k  v1_1 v5_6 x.1 x.2.1 x.2.2.1 h nx) (fun x => [(7, x.1), (8, x.2.1), (9, x.2.2.1), (1, (some v1_1)), (6, (some v5_6))]) ?_ (fun next => ?_)
    · intro ⟨o7_8, o8_8, o9_8, _u⟩ h nx H
      refine OJ.rd rfl rfl rfl (r_pick rfl rfl rfl rfl H) ?_
      intro v10_9 H
      refine OJ.mv rfl rfl rfl (r_move rfl rfl) ?_
      refine OJ.cut (X := Option Value × Option Value × Option Value × Unit) 3 (fun x h nx => H30_g10 k  v1_1 v10_9 x.1 x.2.1 x.2.2.1 h nx) (fun x => [(12, x.1), (13, x.2.1), (14, x.2.2.1), (1, (some v1_1)), (11, (some v10_9))]) ?_ (fun next => ?_)
      · intro ⟨o12_11, o13_11, o14_11, _u⟩ h nx H
        refine OJ.rd rfl rfl rfl (r_pick rfl rfl rfl rfl H) ?_
        intro v15_12 H
        refine OJ.mv rfl rfl rfl (r_move rfl rfl) ?_
        refine OJ.cut (X := Option Value × Option Value × Option Value × Unit) 3 (fun x h nx => H30_g13 k  v1_1 v15_12 x.1 x.2.1 x.2.2.1 h nx) (fun x => [(17, x.1), (18, x.2.1), (19, x.2.2.1), (1, (some v1_1)), (16, (some v15_12))]) ?_ (fun next => ?_)
        · intro ⟨o17_14, o18_14, o19_14, _u⟩ h nx H
          refine OJ.rd rfl rfl rfl (r_pick rfl rfl rfl rfl H) ?_
          intro v20_15 H
          refine OJ.mv rfl rfl rfl (r_move rfl rfl) ?_
          refine OJ.cut (X := Option Value × Option Value × Option Value × Option Value × Unit) 4 (fun x h nx => H30_g16 k  v1_1 v20_15 x.1 x.2.1 x.2.2.1 x.2.2.2.1 h nx) (fun x => [(22, x.1), (23, x.2.1), (24, x.2.2.1), (25, x.2.2.2.1), (1, (some v1_1)), (21, (some v20_15))]) ?_ (fun next => ?_)
          · intro ⟨o22_17, o23_17, o24_17, o25_17, _u⟩ h nx H
            refine OJ.rd rfl rfl rfl (r_pick rfl rfl rfl rfl H) ?_
            intro v26_18 H
            refine OJ.mv rfl rfl rfl (r_move rfl rfl) ?_
            refine OJ.cut (X := Option Value × Option Value × Option Value × Option Value × Unit) 4 (fun x h nx => H30_g19 k  v1_1 v26_18 x.1 x.2.1 x.2.2.1 x.2.2.2.1 h nx) (fun x => [(28, x.1), (29, x.2.1), (30, x.2.2.1), (31, x.2.2.2.1), (1, (some v1_1)), (27, (some v26_18))]) ?_ (fun next => ?_)
            · intro ⟨o28_20, o29_20, o30_20, o31_20, _u⟩ h nx H
              refine OJ.rd rfl rfl rfl (r_pick rfl rfl rfl rfl H) ?_
              intro v32_21 H
              refine OJ.mv rfl rfl rfl (r_move rfl rfl) ?_
              refine OJ.cut (X := Option Value × Option Value × Option Value × Option Value × Option Value × Option Value × Unit) 6 (fun x h nx => H30_g22 k  v1_1 v32_21 x.1 x.2.1 x.2.2.1 x.2.2.2.1 x.2.2.2.2.1 x.2.2.2.2.2.1 h nx) (fun x => [(34, x.1), (35, x.2.1), (36, x.2.2.1), (37, x.2.2.2.1), (38, x.2.2.2.2.1), (39, x.2.2.2.2.2.1), (1, (some v1_1)), (33, (some v32_21))]) ?_ (fun next => ?_)
              · intro ⟨o34_23, o35_23, o36_23, o37_23, o38_23, o39_23, _u⟩ h nx H
                refine OJ.cut (X := Option Value × Option Value × Option Value × Option Value × Unit) 4 (fun x h nx => H30_g24 k  v32_21 o39_23 x.1 x.2.1 x.2.2.1 x.2.2.2.1 h nx) (fun x => [(40, x.1), (41, x.2.1), (42, x.2.2.1), (43, x.2.2.2.1), (33, (some v32_21)), (39, o39_23)]) ?_ (fun next => ?_)
                · intro ⟨o40_25, o41_25, o42_25, o43_25, _u⟩ h nx H
                  refine OJ.cut (X := Option Value × Unit) 1 (fun x h nx => H30_g26 k  v32_21 x.1 h nx) (fun x => [(44, x.1), (33, (some v32_21))]) ?_ (fun next => ?_)
                  · intro ⟨o44_27, _u⟩ h nx H
                    refine OJ.rd rfl rfl rfl (r_pick rfl rfl rfl rfl H) ?_
                    intro v45_28 H
                    refine OJ.fin ?_
                    refine CJ.ite rfl H (fun H => ?_) (fun H => ?_)
                    · cases H
                    · exact CJ.skip [] True.intro (Exists.intro () (And.intro rfl H))
                  · rcases hG_true H with ⟨g, H⟩ | ⟨g, H⟩
                    · obtain ⟨v39_29, eq_, G_⟩ := optK_true H
                      clear H
                      subst eq_
                      have H := G_
                      clear G_
                      refine OJ.grd rfl rfl rfl g rfl rfl (r_pick rfl rfl rfl rfl H) ?_
                      intro v44_30 H
                      exact OJ.weaken [(44, (some v44_30)), (33, (some v32_21))] (And.intro rfl (And.intro rfl True.intro)) (next ((some v44_30), ()) _ _ H)
                    · refine OJ.no rfl rfl rfl g rfl rfl ?_
                      exact OJ.weaken [(44, none), (33, (some v32_21))] (And.intro rfl (And.intro rfl True.intro)) (next (none, ()) _ _ H)
                · rcases hG_true H with ⟨g, H⟩ | ⟨g, H⟩
                  · refine OJ.grd rfl rfl rfl g rfl rfl (r_fieldAddr rfl rfl H) ?_
                    intro v40_31 H
                    refine OJ.grd rfl rfl rfl g rfl rfl (r_load rfl rfl H) ?_
                    intro v41_32 H
                    refine OJ.grd rfl rfl rfl g rfl rfl (r_build (vs := []) rfl True.intro H) ?_
                    intro v42_33 H
                    refine OJ.grd rfl rfl rfl g rfl rfl (r_bin rfl rfl rfl H) ?_
                    intro v43_34 H
                    exact OJ.weaken [(40, (some v40_31)), (41, (some v41_32)), (42, (some v42_33)), (43, (some v43_34)), (33, (some v32_21)), (39, o39_23)] (And.intro rfl (And.intro rfl (And.intro rfl (And.intro rfl (And.intro rfl (And.intro rfl True.intro)))))) (next ((some v40_31), (some v41_32), (some v42_33), (some v43_34), ()) _ _ H)
                  · refine OJ.no rfl rfl rfl g rfl rfl ?_
                    refine OJ.no rfl rfl rfl g rfl rfl ?_
                    refine OJ.no rfl rfl rfl g rfl rfl ?_
                    refine OJ.no rfl rfl rfl g rfl rfl ?_
                    exact OJ.weaken [(40, none), (41, none), (42, none), (43, none), (33, (some v32_21)), (39, o39_23)] (And.intro rfl (And.intro rfl (And.intro rfl (And.intro rfl (And.intro rfl (And.intro rfl True.intro)))))) (next (none, none, none, none, ()) _ _ H)
              · rcases hG_true H with ⟨g, H⟩ | ⟨g, H⟩
                · refine OJ.grd rfl rfl rfl g rfl rfl (r_fieldAddr rfl rfl H) ?_
                  intro v34_35 H
                  refine OJ.grd rfl rfl rfl g rfl rfl (r_fieldAddr rfl rfl H) ?_
                  intro v35_36 H
                  refine OJ.grd rfl rfl rfl g rfl rfl (r_fieldAddr rfl rfl H) ?_
                  intro v36_37 H
                  refine OJ.grd rfl rfl rfl g rfl rfl (r_load rfl rfl H) ?_
                  intro v37_38 H
                  refine OJ.grd rfl rfl rfl g rfl rfl (r_bin rfl rfl rfl H) ?_
                  intro v38_39 H
                  refine OJ.gmv rfl rfl rfl g rfl rfl (r_move rfl rfl) ?_
                  exact OJ.weaken [(34, (some v34_35)), (35, (some v35_36)), (36, (some v36_37)), (37, (some v37_38)), (38, (some v38_39)), (39, (some v38_39)), (1, (some v1_1)), (33, (some v32_21))] (And.intro rfl (And.intro rfl (And.intro rfl (And.intro rfl (And.intro rfl (And.intro rfl (And.intro rfl (And.intro rfl True.intro)))))))) (next ((some v34_35), (some v35_36), (some v36_37), (some v37_38), (some v38_39), (some v38_39), ()) _ _ H)
                · refine OJ.no rfl rfl rfl g rfl rfl ?_
                  refine OJ.no rfl rfl rfl g rfl rfl ?_
                  refine OJ.no rfl rfl rfl g rfl rfl ?_
                  refine OJ.no rfl rfl rfl g rfl rfl ?_
                  refine OJ.no rfl rfl rfl g rfl rfl ?_
                  refine OJ.no rfl rfl rfl g rfl rfl ?_
                  exact OJ.weaken [(34, none), (35, none), (36, none), (37, none), (38, none), (39, none), (1, (some v1_1)), (33, (some v32_21))] (And.intro rfl (And.intro rfl (And.intro rfl (And.intro rfl (And.intro rfl (And.intro rfl (And.intro rfl (And.intro rfl True.intro)))))))) (next (none, none, none, none, none, none, ()) _ _ H)
            · rcases hG_true H with ⟨g, H⟩ | ⟨g, H⟩
              · refine OJ.grd rfl rfl rfl g rfl rfl (r_fieldAddr rfl rfl H) ?_
                intro v28_40 H
                refine OJ.grd rfl rfl rfl g rfl rfl (r_load rfl rfl H) ?_
                intro v29_41 H
                refine OJ.gfu rfl rfl rfl g rfl rfl (r_call (args := [v29_41]) rfl rfl rfl (And.intro rfl True.intro) Tryz.call60 (sim60 H)) ?_
                intro v30_42 h42 nx42 H
                refine OJ.grd rfl rfl rfl g rfl rfl (r_bin rfl rfl rfl H) ?_
                intro v31_43 H
                exact OJ.weaken [(28, (some v28_40)), (29, (some v29_41)), (30, (some v30_42)), (31, (some v31_43)), (1, (some v1_1)), (27, (some v26_18))] (And.intro rfl (And.intro rfl (And.intro rfl (And.intro rfl (And.intro rfl (And.intro rfl True.intro)))))) (next ((some v28_40), (some v29_41), (some v30_42), (some v31_43), ()) _ _ H)
              · refine OJ.no rfl rfl rfl g rfl rfl ?_
                refine OJ.no rfl rfl rfl g rfl rfl ?_
                refine OJ.no rfl rfl rfl g rfl rfl ?_
                refine OJ.no rfl rfl rfl g rfl rfl ?_
                exact OJ.weaken [(28, none), (29, none), (30, none), (31, none), (1, (some v1_1)), (27, (some v26_18))] (And.intro rfl (And.intro rfl (And.intro rfl (And.intro rfl (And.intro rfl (And.intro rfl True.intro)))))) (next (none, none, none, none, ()) _ _ H)
          · rcases hG_true H with ⟨g, H⟩ | ⟨g, H⟩
            · refine OJ.grd rfl rfl rfl g rfl rfl (r_fieldAddr rfl rfl H) ?_
              intro v22_44 H
              refine OJ.grd rfl rfl rfl g rfl rfl (r_load rfl rfl H) ?_
              intro v23_45 H
              refine OJ.gfu rfl rfl rfl g rfl rfl (r_call (args := [v23_45]) rfl rfl rfl (And.intro rfl True.intro) Tryz.call59 (sim59 H)) ?_
              intro v24_46 h46 nx46 H
              refine OJ.grd rfl rfl rfl g rfl rfl (r_bin rfl rfl rfl H) ?_
              intro v25_47 H
              exact OJ.weaken [(22, (some v22_44)), (23, (some v23_45)), (24, (some v24_46)), (25, (some v25_47)), (1, (some v1_1)), (21, (some v20_15))] (And.intro rfl (And.intro rfl (And.intro rfl (And.intro rfl (And.intro rfl (And.intro rfl True.intro)))))) (next ((some v22_44), (some v23_45), (some v24_46), (some v25_47), ()) _ _ H)
            · refine OJ.no rfl rfl rfl g rfl rfl ?_
              refine OJ.no rfl rfl rfl g rfl rfl ?_
              refine OJ.no rfl rfl rfl g rfl rfl ?_
              refine OJ.no rfl rfl rfl g rfl rfl ?_
              exact OJ.weaken [(22, none), (23, none), (24, none), (25, none), (1, (some v1_1)), (21, (some v20_15))] (And.intro rfl (And.intro rfl (And.intro rfl (And.intro rfl (And.intro rfl (And.intro rfl True.intro)))))) (next (none, none, none, none, ()) _ _ H)
        · rcases hG_true H with ⟨g, H⟩ | ⟨g, H⟩
          · refine OJ.grd rfl rfl rfl g rfl rfl (r_fieldAddr rfl rfl H) ?_
            intro v17_48 H
            refine OJ.grd rfl rfl rfl g rfl rfl (r_load rfl rfl H) ?_
            intro v18_49 H
            refine OJ.grd rfl rfl rfl g rfl rfl (r_bin rfl rfl rfl H) ?_
            intro v19_50 H
            exact OJ.weaken [(17, (some v17_48)), (18, (some v18_49)), (19, (some v19_50)), (1, (some v1_1)), (16, (some v15_12))] (And.intro rfl (And.intro rfl (And.intro rfl (And.intro rfl (And.intro rfl True.intro))))) (next ((some v17_48), (some v18_49), (some v19_50), ()) _ _ H)
          · refine OJ.no rfl rfl rfl g rfl rfl ?_
            refine OJ.no rfl rfl rfl g rfl rfl ?_
            refine OJ.no rfl rfl rfl g rfl rfl ?_
            exact OJ.weaken [(17, none), (18, none), (19, none), (1, (some v1_1)), (16, (some v15_12))] (And.intro rfl (And.intro rfl (And.intro rfl (And.intro rfl (And.intro rfl True.intro))))) (next (none, none, none, ()) _ _ H)
      · rcases hG_true H with ⟨g, H⟩ | ⟨g, H⟩
        · refine OJ.grd rfl rfl rfl g rfl rfl (r_fieldAddr rfl rfl H) ?_
          intro v12_51 H
          refine OJ.grd rfl rfl rfl g rfl rfl (r_load rfl rfl H) ?_
          intro v13_52 H
          refine OJ.grd rfl rfl rfl g rfl rfl (r_bin rfl rfl rfl H) ?_
          intro v14_53 H
          exact OJ.weaken [(12, (some v12_51)), (13, (some v13_52)), (14, (some v14_53)), (1, (some v1_1)), (11, (some v10_9))] (And.intro rfl (And.intro rfl (And.intro rfl (And.intro rfl (And.intro rfl True.intro))))) (next ((some v12_51), (some v13_52), (some v14_53), ()) _ _ H)
        · refine OJ.no rfl rfl rfl g rfl rfl ?_
          refine OJ.no rfl rfl rfl g rfl rfl ?_
          refine OJ.no rfl rfl rfl g rfl rfl ?_
          exact OJ.weaken [(12, none), (13, none), (14, none), (1, (some v1_1)), (11, (some v10_9))] (And.intro rfl (And.intro rfl (And.intro rfl (And.intro rfl (And.intro rfl True.intro))))) (next (none, none, none, ()) _ _ H)
    · rcases hG_true H with ⟨g, H⟩ | ⟨g, H⟩
      · refine OJ.grd rfl rfl rfl g rfl rfl (r_fieldAddr rfl rfl H) ?_
        intro v7_54 H
        refine OJ.grd rfl rfl rfl g rfl rfl (r_load rfl rfl H) ?_
        intro v8_55 H
        refine OJ.grd rfl rfl rfl g rfl rfl (r_bin rfl rfl rfl H) ?_
        intro v9_56 H
        exact OJ.weaken [(7, (some v7_54)), (8, (some v8_55)), (9, (some v9_56)), (1, (some v1_1)), (6, (some v5_6))] (And.intro rfl (And.intro rfl (And.intro rfl (And.intro rfl (And.intro rfl True.intro))))) (next ((some v7_54), (some v8_55), (some v9_56), ()) _ _ H)
      · refine OJ.no rfl rfl rfl g rfl rfl ?_
        refine OJ.no rfl rfl rfl g rfl rfl ?_
        refine OJ.no rfl rfl rfl g rfl rfl ?_
        exact OJ.weaken [(7, none), (8, none), (9, none), (1, (some v1_1)), (6, (some v5_6))] (And.intro rfl (And.intro rfl (And.intro rfl (And.intro rfl (And.intro rfl True.intro))))) (next (none, none, none, ()) _ _ H)
  · intro _u h nx H
    refine CJ.seq ?_
    refine CJ.region ?_
    refine OJ.mv rfl rfl rfl (r_assign rfl rfl) ?_
    refine OJ.fin ?_
    refine CJ.ret1 ?_
    exact ret_one (Or.inr rfl) rfl rfl H

/-! 12 -/
noncomputable def H12_j11 (k : KV)  (a6_12 : Value) (a10_12 : Value) (h : Heap) (nx : Nat) : Bool :=
  loadK Tryz.prog 59 a10_12 h fun v28_13 =>
  storeK Tryz.prog 59 a6_12 v28_13 h fun h14 =>
  loadK Tryz.prog 59 a6_12 h14 fun r15 => hNT (.int .i64 (.ofNat 0)) fun _ => k (resV [r15, (.int .i64 (.ofNat 0))]) h14 nx
noncomputable def H12_g18 (k : KV)  (v6_1 : Value) (v10_9 : Value) (v21_17 : Value) (o23_19 : Option Value) (o24_19 : Option Value) (o25_19 : Option Value) (h : Heap) (nx : Nat) : Bool :=
  hPick v21_17 (some (.bool true)) o25_19 fun v26_20 =>
  hIf v26_20 (fun _ => false) (fun _ => H12_j11 k  v6_1 v10_9 h nx)
noncomputable def H12 (a0 : Value) (a1 : Value) (a2 : Value) (h : Heap) (nx : Nat) (k : KV) : Bool :=
  hAlloc Tryz.prog 59 h nx fun v6_1 h1 nx1 =>
  H29 a2 h1 nx1 fun v13_2 h2 nx2 =>
  hExtract v13_2 0 fun v14_3 =>
  hExtract v13_2 1 fun v15_4 =>
  hAlloc Tryz.prog 55 h2 nx2 fun v8_5 h5 nx5 =>
  storeK Tryz.prog 55 v8_5 v14_3 h5 fun h6 =>
  loadK Tryz.prog 55 v8_5 h6 fun v18_7 =>
  hBuild Tryz.prog 59 [(0, a0), (1, a1), (2, v18_7)] fun v19_8 =>
  hAlloc Tryz.prog 59 h6 nx5 fun v10_9 h9 nx9 =>
  storeK Tryz.prog 59 v10_9 v19_8 h9 fun h10 =>
  binK Tryz.prog .neq 44 (.tmp 20) (.const (.int .i64 (.ofNat 0))) v15_4 (.int .i64 (.ofNat 0)) fun v21_17 =>
  hG (some v21_17) false (fun _ => loadK Tryz.prog 59 v10_9 h10 fun v23_21 =>
  H30 v23_21 h10 nx9 fun v24_22 h22 nx22 =>
  binK Tryz.prog .neq 44 (.tmp 24) (.const (.int .i64 (.ofNat 0))) v24_22 (.int .i64 (.ofNat 0)) fun v25_23 =>
  H12_g18 k  v6_1 v10_9 v21_17 (some v23_21) (some v24_22) (some v25_23) h22 nx22) (fun _ => H12_g18 k  v6_1 v10_9 v21_17 none none none h10 nx9)
theorem sim12 {a0 a1 a2 : Value} {h : Heap} {nx : Nat} {k : KV} (H : H12 a0 a1 a2 h nx k = true) : ∃ v h' nx', k v h' nx' = true ∧ CallSim Tryz.prog 12 [a0, a1, a2] h nx v h' nx' := by
  refine fn_rule Tryz.func12 rfl rfl ?_
  refine CJ.seq ?_
  refine CJ.region ?_
  refine OJ.fu rfl rfl rfl (r_alloc1 rfl H) ?_
  intro v6_1 h1 nx1 H
  refine OJ.mv rfl rfl rfl (r_assign rfl rfl) ?_
  refine OJ.fin ?_
  refine CJ.seq ?_
  refine CJ.region ?_
  refine OJ.mv rfl rfl rfl (r_move rfl rfl) ?_
  refine OJ.fu rfl rfl rfl (r_call (args := [a2]) rfl rfl rfl (And.intro rfl True.intro) Tryz.call29 (sim29 H)) ?_
  intro v13_2 h2 nx2 H
  refine OJ.mv rfl rfl rfl (r_move rfl rfl) ?_
  refine OJ.rd rfl rfl rfl (r_extract rfl rfl H) ?_
  intro v14_3 H
  refine OJ.rd rfl rfl rfl (r_extract rfl rfl H) ?_
  intro v15_4 H
  refine OJ.fu rfl rfl rfl (r_alloc1 rfl H) ?_
  intro v8_5 h5 nx5 H
  refine OJ.wr rfl rfl (r_store rfl rfl rfl H) ?_
  intro h6 H
  refine OJ.mv rfl rfl rfl (r_assign rfl rfl) ?_
  refine OJ.fin ?_
  refine CJ.seq ?_
  refine CJ.region ?_
  refine OJ.mv rfl rfl rfl (r_move rfl rfl) ?_
  refine OJ.mv rfl rfl rfl (r_move rfl rfl) ?_
  refine OJ.rd rfl rfl rfl (r_load rfl rfl H) ?_
  intro v18_7 H
  refine OJ.rd rfl rfl rfl (r_build (vs := [(0, a0), (1, a1), (2, v18_7)]) rfl (And.intro rfl (And.intro rfl (And.intro rfl (And.intro rfl (And.intro rfl (And.intro rfl True.intro)))))) H) ?_
  intro v19_8 H
  refine OJ.fu rfl rfl rfl (r_alloc1 rfl H) ?_
  intro v10_9 h9 nx9 H
  refine OJ.wr rfl rfl (r_store rfl rfl rfl H) ?_
  intro h10 H
  refine OJ.fin ?_
  refine CJ.seq (CJ.cut (X := Value × Value × Unit) (fun x h nx => H12_j11 k  x.1 x.2.1 h nx) (fun x => [(6, some x.1), (10, some x.2.1)]) ?_ ?_)
  · refine CJ.seq ?_
    refine CJ.region ?_
    refine OJ.mv rfl rfl rfl (r_move rfl rfl) ?_
    refine OJ.rd rfl rfl rfl (r_bin rfl rfl rfl H) ?_
    intro v21_17 H
    refine OJ.mv rfl rfl rfl (r_move rfl rfl) ?_
    refine OJ.cut (X := Option Value × Option Value × Option Value × Unit) 3 (fun x h nx => H12_g18 k  v6_1 v10_9 v21_17 x.1 x.2.1 x.2.2.1 h nx) (fun x => [(23, x.1), (24, x.2.1), (25, x.2.2.1), (6, (some v6_1)), (10, (some v10_9)), (22, (some v21_17))]) ?_ (fun next => ?_)
    · intro ⟨o23_19, o24_19, o25_19, _u⟩ h nx H
      refine OJ.rd rfl rfl rfl (r_pick rfl rfl rfl rfl H) ?_
      intro v26_20 H
      refine OJ.fin ?_
      refine CJ.ite rfl H (fun H => ?_) (fun H => ?_)
      · cases H
      · exact CJ.skip [(6, (some v6_1)), (10, (some v10_9))] (And.intro rfl (And.intro rfl True.intro)) (Exists.intro (v6_1, v10_9, ()) (And.intro rfl H))
    · rcases hG_true H with ⟨g, H⟩ | ⟨g, H⟩
      · refine OJ.grd rfl rfl rfl g rfl rfl (r_load rfl rfl H) ?_
        intro v23_21 H
        refine OJ.gfu rfl rfl rfl g rfl rfl (r_call (args := [v23_21]) rfl rfl rfl (And.intro rfl True.intro) Tryz.call30 (sim30 H)) ?_
        intro v24_22 h22 nx22 H
        refine OJ.grd rfl rfl rfl g rfl rfl (r_bin rfl rfl rfl H) ?_
        intro v25_23 H
        exact OJ.weaken [(23, (some v23_21)), (24, (some v24_22)), (25, (some v25_23)), (6, (some v6_1)), (10, (some v10_9)), (22, (some v21_17))] (And.intro rfl (And.intro rfl (And.intro rfl (And.intro rfl (And.intro rfl (And.intro rfl True.intro)))))) (next ((some v23_21), (some v24_22), (some v25_23), ()) _ _ H)
      · refine OJ.no rfl rfl rfl g rfl rfl ?_
        refine OJ.no rfl rfl rfl g rfl rfl ?_
        refine OJ.no rfl rfl rfl g rfl rfl ?_
        exact OJ.weaken [(23, none), (24, none), (25, none), (6, (some v6_1)), (10, (some v10_9)), (22, (some v21_17))] (And.intro rfl (And.intro rfl (And.intro rfl (And.intro rfl (And.intro rfl (And.intro rfl True.intro)))))) (next (none, none, none, ()) _ _ H)
  · intro ⟨a6_12, a10_12, _u⟩ h nx H
    refine CJ.seq ?_
    refine CJ.region ?_
    refine OJ.rd rfl rfl rfl (r_load rfl rfl H) ?_
    intro v28_13 H
    refine OJ.wr rfl rfl (r_store rfl rfl rfl H) ?_
    intro h14 H
    refine OJ.mv rfl rfl rfl (r_assign rfl rfl) ?_
    refine OJ.fin ?_
    refine CJ.ret1 ?_
    obtain ⟨r15, H, l15⟩ := load_val H
    obtain ⟨n16, H⟩ := hNT_true H
    exact ret_gen (vs := [r15, (.int .i64 (.ofNat 0))]) (Or.inr rfl) (And.intro (Exists.intro a6_12 (And.intro rfl l15)) (And.intro rfl (And.intro n16 True.intro))) H

/-! 31 -/
noncomputable def H31_g5 (k : KV)  (a9_3 : Value) (v38_4 : Value) (o40_6 : Option Value) (o41_6 : Option Value) (o42_6 : Option Value) (o43_6 : Option Value) (o44_6 : Option Value) (o45_6 : Option Value) (o46_6 : Option Value) (o47_6 : Option Value) (h : Heap) (nx : Nat) : Bool :=
  hPick v38_4 o47_6 (some (.bool false)) fun v48_7 =>
  hRet [a9_3, v48_7] h nx k
noncomputable def H31_j2 (k : KV)  (a8_3 : Value) (a9_3 : Value) (h : Heap) (nx : Nat) : Bool :=
  binK Tryz.prog .lss 3 (.tmp 36) (.tmp 37) a9_3 a8_3 fun v38_4 =>
  hG (some v38_4) true (fun _ => false) (fun _ => H31_g5 k  a9_3 v38_4 none none none none none none none none h nx)
noncomputable def H31_j10 (k : KV) (ih8 : Value → Value → Value → Heap → Nat → Bool)  (h : Heap) (nx : Nat) : Bool :=
  false
noncomputable def H31_l8 (k : KV)  (n : Nat) : Value → Value → Value → Heap → Nat → Bool :=
  Nat.rec (motive := fun _ => Value → Value → Value → Heap → Nat → Bool) (fun _ _ _ _ _ => false) (fun _ ih8 a8_9 a9_9 a10_9 h nx => binK Tryz.prog .lss 3 (.tmp 15) (.tmp 16) a9_9 a10_9 fun v17_12 =>
  hIf v17_12 (fun _ => false) (fun _ => H31_j2 k  a8_9 a9_9 h nx)) n
noncomputable def H31 (a0 : Value) (a1 : Value) (a2 : Value) (h : Heap) (nx : Nat) (k : KV) : Bool :=
  lenK Tryz.prog 37 a0 h fun v13_1 =>
  H31_l8 k  200000 v13_1 (.int .i64 (.ofNat 0)) v13_1 h nx
theorem sim31 {a0 a1 a2 : Value} {h : Heap} {nx : Nat} {k : KV} (H : H31 a0 a1 a2 h nx k = true) : ∃ v h' nx', k v h' nx' = true ∧ CallSim Tryz.prog 31 [a0, a1, a2] h nx v h' nx' := by
  refine fn_rule Tryz.func31 rfl rfl ?_
  refine CJ.seq ?_
  refine CJ.region ?_
  refine OJ.mv rfl rfl rfl (r_assign rfl rfl) ?_
  refine OJ.mv rfl rfl rfl (r_assign rfl rfl) ?_
  refine OJ.fin ?_
  refine CJ.seq ?_
  refine CJ.region ?_
  refine OJ.mv rfl rfl rfl (r_move rfl rfl) ?_
  refine OJ.rd rfl rfl rfl (r_len (x := default) rfl rfl (And.intro rfl True.intro) rfl H) ?_
  intro v13_1 H
  refine OJ.mv rfl rfl rfl (r_assign rfl rfl) ?_
  refine OJ.fin ?_
  refine CJ.seq ?_
  refine CJ.region ?_
  refine OJ.mv rfl rfl rfl (r_move rfl rfl) ?_
  refine OJ.mv rfl rfl rfl (r_assign rfl rfl) ?_
  refine OJ.mv rfl rfl rfl (r_assign rfl rfl) ?_
  refine OJ.fin ?_
  refine CJ.seq (CJ.cut (X := Value × Value × Unit) (fun x h nx => H31_j2 k  x.1 x.2.1 h nx) (fun x => [(8, some x.1), (9, some x.2.1)]) ?_ ?_)
  · refine CJ.block ?_
    refine CJ.weaken [(8, (some v13_1)), (9, (some (.int .i64 (.ofNat 0)))), (10, (some v13_1))] (And.intro rfl (And.intro rfl (And.intro rfl True.intro))) ?_
    refine CJ.loop_ind (X := Value × Value × Value × Unit) (fun n x h nx => H31_l8 k  n x.1 x.2.1 x.2.2.1 h nx) (fun x => [(8, some x.1), (9, some x.2.1), (10, some x.2.2.1)]) (fun _ _ _ => rfl) ?_ 200000 (v13_1, (.int .i64 (.ofNat 0)), v13_1, ()) _ _ H
    intro ih8n ih8p ⟨a8_9, a9_9, a10_9, _u⟩ h nx H
    let ih8 := H31_l8 k  ih8n
    refine CJ.seq (CJ.cut (X := Unit) (fun x h nx => H31_j10 k ih8  h nx) (fun x => []) ?_ ?_)
    · refine CJ.seq ?_
      refine CJ.region ?_
      refine OJ.mv rfl rfl rfl (r_move rfl rfl) ?_
      refine OJ.mv rfl rfl rfl (r_move rfl rfl) ?_
      refine OJ.rd rfl rfl rfl (r_bin rfl rfl rfl H) ?_
      intro v17_12 H
      refine OJ.fin ?_
      refine CJ.ite rfl H (fun H => ?_) (fun H => ?_)
      · cases H
      · exact CJ.exit [(8, (some a8_9)), (9, (some a9_9))] (And.intro rfl (And.intro rfl True.intro)) (Exists.intro (a8_9, a9_9, ()) (And.intro rfl H))
    · intro _u h nx H
      cases H
  · intro ⟨a8_3, a9_3, _u⟩ h nx H
    refine CJ.seq ?_
    refine CJ.region ?_
    refine OJ.mv rfl rfl rfl (r_move rfl rfl) ?_
    refine OJ.mv rfl rfl rfl (r_move rfl rfl) ?_
    refine OJ.mv rfl rfl rfl (r_move rfl rfl) ?_
    refine OJ.rd rfl rfl rfl (r_bin rfl rfl rfl H) ?_
    intro v38_4 H
    refine OJ.mv rfl rfl rfl (r_move rfl rfl) ?_
    refine OJ.cut (X := Option Value × Option Value × Option Value × Option Value × Option Value × Option Value × Option Value × Option Value × Unit) 8 (fun x h nx => H31_g5 k  a9_3 v38_4 x.1 x.2.1 x.2.2.1 x.2.2.2.1 x.2.2.2.2.1 x.2.2.2.2.2.1 x.2.2.2.2.2.2.1 x.2.2.2.2.2.2.2.1 h nx) (fun x => [(40, x.1), (41, x.2.1), (42, x.2.2.1), (43, x.2.2.2.1), (44, x.2.2.2.2.1), (45, x.2.2.2.2.2.1), (46, x.2.2.2.2.2.2.1), (47, x.2.2.2.2.2.2.2.1), (35, (some a9_3)), (39, (some v38_4))]) ?_ (fun next => ?_)
    · intro ⟨o40_6, o41_6, o42_6, o43_6, o44_6, o45_6, o46_6, o47_6, _u⟩ h nx H
      refine OJ.rd rfl rfl rfl (r_pick rfl rfl rfl rfl H) ?_
      intro v48_7 H
      refine OJ.mv rfl rfl rfl (r_assign rfl rfl) ?_
      refine OJ.mv rfl rfl rfl (r_assign rfl rfl) ?_
      refine OJ.fin ?_
      refine CJ.ret1 ?_
      exact ret_many (vs := [a9_3, v48_7]) [6, 7] (Or.inr rfl) rfl (And.intro rfl (And.intro rfl True.intro)) H
    · rcases hG_true H with ⟨g, H⟩ | ⟨g, H⟩
      · cases H
      · refine OJ.no rfl rfl rfl g rfl rfl ?_
        refine OJ.no rfl rfl rfl g rfl rfl ?_
        refine OJ.no rfl rfl rfl g rfl rfl ?_
        refine OJ.no rfl rfl rfl g rfl rfl ?_
        refine OJ.no rfl rfl rfl g rfl rfl ?_
        refine OJ.no rfl rfl rfl g rfl rfl ?_
        refine OJ.no rfl rfl rfl g rfl rfl ?_
        refine OJ.no rfl rfl rfl g rfl rfl ?_
        exact OJ.weaken [(40, none), (41, none), (42, none), (43, none), (44, none), (45, none), (46, none), (47, none), (35, (some a9_3)), (39, (some v38_4))] (And.intro rfl (And.intro rfl (And.intro rfl (And.intro rfl (And.intro rfl (And.intro rfl (And.intro rfl (And.intro rfl (And.intro rfl (And.intro rfl True.intro)))))))))) (next (none, none, none, none, none, none, none, none, ()) _ _ H)

/-! 13 -/
noncomputable def H13 (a0 : Value) (a1 : Value) (h : Heap) (nx : Nat) (k : KV) : Bool :=
  hNil a0 fun v7_1 =>
  hFieldAddr Tryz.prog 43 v7_1 1 fun v8_2 =>
  loadK Tryz.prog 37 v8_2 h fun v9_3 =>
  H31 v9_3 a1 (.func (.func 32) ⟨[]⟩ ⟨[]⟩) h nx fun v11_4 h4 nx4 =>
  hExtract v11_4 0 fun v12_5 =>
  hExtract v11_4 1 fun v13_6 =>
  hRet [v12_5, v13_6] h4 nx4 k
theorem sim13 {a0 a1 : Value} {h : Heap} {nx : Nat} {k : KV} (H : H13 a0 a1 h nx k = true) : ∃ v h' nx', k v h' nx' = true ∧ CallSim Tryz.prog 13 [a0, a1] h nx v h' nx' := by
  refine fn_rule Tryz.func13 rfl rfl ?_
  refine CJ.seq ?_
  refine CJ.region ?_
  refine OJ.mv rfl rfl rfl (r_assign rfl rfl) ?_
  refine OJ.mv rfl rfl rfl (r_assign rfl rfl) ?_
  refine OJ.fin ?_
  refine CJ.seq ?_
  refine CJ.region ?_
  refine OJ.mv rfl rfl rfl (r_move rfl rfl) ?_
  refine OJ.rd rfl rfl rfl (r_nil rfl rfl H) ?_
  intro v7_1 H
  refine OJ.rd rfl rfl rfl (r_fieldAddr rfl rfl H) ?_
  intro v8_2 H
  refine OJ.rd rfl rfl rfl (r_load rfl rfl H) ?_
  intro v9_3 H
  refine OJ.mv rfl rfl rfl (r_move rfl rfl) ?_
  refine OJ.fu rfl rfl rfl (r_call (args := [v9_3, a1, (.func (.func 32) ⟨[]⟩ ⟨[]⟩)]) rfl rfl rfl (And.intro rfl (And.intro rfl (And.intro rfl True.intro))) Tryz.call31 (sim31 H)) ?_
  intro v11_4 h4 nx4 H
  refine OJ.rd rfl rfl rfl (r_extract rfl rfl H) ?_
  intro v12_5 H
  refine OJ.rd rfl rfl rfl (r_extract rfl rfl H) ?_
  intro v13_6 H
  refine OJ.mv rfl rfl rfl (r_assign rfl rfl) ?_
  refine OJ.mv rfl rfl rfl (r_assign rfl rfl) ?_
  refine OJ.fin ?_
  refine CJ.ret1 ?_
  exact ret_many (vs := [v12_5, v13_6]) [4, 5] (Or.inr rfl) rfl (And.intro rfl (And.intro rfl True.intro)) H

/-! 14 -/
noncomputable def H14_j6 (k : KV)   (h : Heap) (nx : Nat) : Bool :=
  false
noncomputable def H14_j3 (k : KV)  (a0_4 : Value) (a1_4 : Value) (a2_4 : Value) (h : Heap) (nx : Nat) : Bool :=
  lenK Tryz.prog 37 a0_4 h fun v19_5 =>
  binK Tryz.prog .eql 3 (.tmp 20) (.tmp 21) a1_4 v19_5 fun v22_8 =>
  hIf v22_8 (fun _ => hAppend Tryz.prog 37 37 a0_4 a2_4 h nx fun v25_9 h9 nx9 =>
  k v25_9 h9 nx9) (fun _ => false)
noncomputable def H14 (a0 : Value) (a1 : Value) (a2 : Value) (h : Heap) (nx : Nat) (k : KV) : Bool :=
  hSlice Tryz.prog h 37 a0 (some a1) none none fun v12_1 =>
  lenK Tryz.prog 37 a2 h fun v14_2 =>
  binK Tryz.prog .eql 3 (.tmp 15) (.const (.int .i64 (.ofNat 0))) v14_2 (.int .i64 (.ofNat 0)) fun v16_10 =>
  hIf v16_10 (fun _ => false) (fun _ => H14_j3 k  a0 a1 a2 h nx)
theorem sim14 {a0 a1 a2 : Value} {h : Heap} {nx : Nat} {k : KV} (H : H14 a0 a1 a2 h nx k = true) : ∃ v h' nx', k v h' nx' = true ∧ CallSim Tryz.prog 14 [a0, a1, a2] h nx v h' nx' := by
  refine fn_rule Tryz.func14 rfl rfl ?_
  refine CJ.seq ?_
  refine CJ.region ?_
  refine OJ.mv rfl rfl rfl (r_assign rfl rfl) ?_
  refine OJ.fin ?_
  refine CJ.seq ?_
  refine CJ.region ?_
  refine OJ.mv rfl rfl rfl (r_move rfl rfl) ?_
  refine OJ.mv rfl rfl rfl (r_move rfl rfl) ?_
  refine OJ.rd rfl rfl rfl (r_slice (lo' := some a1) (hi' := none) (mx' := none) rfl rfl rfl True.intro True.intro H) ?_
  intro v12_1 H
  refine OJ.fin ?_
  refine CJ.seq ?_
  refine CJ.region ?_
  refine OJ.mv rfl rfl rfl (r_move rfl rfl) ?_
  refine OJ.rd rfl rfl rfl (r_len (x := default) rfl rfl (And.intro rfl True.intro) rfl H) ?_
  intro v14_2 H
  refine OJ.mv rfl rfl rfl (r_assign rfl rfl) ?_
  refine OJ.fin ?_
  refine CJ.seq (CJ.cut (X := Value × Value × Value × Unit) (fun x h nx => H14_j3 k  x.1 x.2.1 x.2.2.1 h nx) (fun x => [(0, some x.1), (1, some x.2.1), (2, some x.2.2.1)]) ?_ ?_)
  · refine CJ.seq ?_
    refine CJ.region ?_
    refine OJ.mv rfl rfl rfl (r_move rfl rfl) ?_
    refine OJ.rd rfl rfl rfl (r_bin rfl rfl rfl H) ?_
    intro v16_10 H
    refine OJ.fin ?_
    refine CJ.ite rfl H (fun H => ?_) (fun H => ?_)
    · cases H
    · exact CJ.skip [(0, (some a0)), (1, (some a1)), (2, (some a2))] (And.intro rfl (And.intro rfl (And.intro rfl True.intro))) (Exists.intro (a0, a1, a2, ()) (And.intro rfl H))
  · intro ⟨a0_4, a1_4, a2_4, _u⟩ h nx H
    refine CJ.seq ?_
    refine CJ.region ?_
    refine OJ.mv rfl rfl rfl (r_move rfl rfl) ?_
    refine OJ.rd rfl rfl rfl (r_len (x := default) rfl rfl (And.intro rfl True.intro) rfl H) ?_
    intro v19_5 H
    refine OJ.mv rfl rfl rfl (r_assign rfl rfl) ?_
    refine OJ.fin ?_
    refine CJ.seq (CJ.cut (X := Unit) (fun x h nx => H14_j6 k   h nx) (fun x => []) ?_ ?_)
    · refine CJ.seq ?_
      refine CJ.region ?_
      refine OJ.mv rfl rfl rfl (r_move rfl rfl) ?_
      refine OJ.mv rfl rfl rfl (r_move rfl rfl) ?_
      refine OJ.rd rfl rfl rfl (r_bin rfl rfl rfl H) ?_
      intro v22_8 H
      refine OJ.fin ?_
      refine CJ.ite rfl H (fun H => ?_) (fun H => ?_)
      · refine CJ.seq ?_
        refine CJ.region ?_
        refine OJ.mv rfl rfl rfl (r_move rfl rfl) ?_
        refine OJ.mv rfl rfl rfl (r_move rfl rfl) ?_
        refine OJ.fu rfl rfl rfl (r_append1 rfl rfl (And.intro rfl (And.intro rfl True.intro)) rfl H) ?_
        intro v25_9 h9 nx9 H
        refine OJ.mv rfl rfl rfl (r_assign rfl rfl) ?_
        refine OJ.fin ?_
        refine CJ.ret1 ?_
        exact ret_one (Or.inr rfl) rfl rfl H
      · cases H
    · intro _u h nx H
      cases H

/-! 105 -/
noncomputable def H105_g2 (k : KV)  (v4_1 : Value) (o6_3 : Option Value) (o7_3 : Option Value) (h : Heap) (nx : Nat) : Bool :=
  hPick v4_1 o7_3 (some (.bool false)) fun v8_4 =>
  k v8_4 h nx
noncomputable def H105 (a0 : Value) (h : Heap) (nx : Nat) (k : KV) : Bool :=
  binK Tryz.prog .geq 3 (.tmp 3) (.const (.int .i64 (.ofNat 0))) a0 (.int .i64 (.ofNat 0)) fun v4_1 =>
  hG (some v4_1) true (fun _ => binK Tryz.prog .leq 3 (.tmp 6) (.const (.int .i64 (.ofNat 2147483647))) a0 (.int .i64 (.ofNat 2147483647)) fun v7_5 =>
  H105_g2 k  v4_1 (some a0) (some v7_5) h nx) (fun _ => H105_g2 k  v4_1 none none h nx)
theorem sim105 {a0 : Value} {h : Heap} {nx : Nat} {k : KV} (H : H105 a0 h nx k = true) : ∃ v h' nx', k v h' nx' = true ∧ CallSim Tryz.prog 105 [a0] h nx v h' nx' := by
  refine fn_rule Tryz.func105 rfl rfl ?_
  refine CJ.seq ?_
  refine CJ.region ?_
  refine OJ.mv rfl rfl rfl (r_assign rfl rfl) ?_
  refine OJ.fin ?_
  refine CJ.seq ?_
  refine CJ.region ?_
  refine OJ.mv rfl rfl rfl (r_move rfl rfl) ?_
  refine OJ.rd rfl rfl rfl (r_bin rfl rfl rfl H) ?_
  intro v4_1 H
  refine OJ.mv rfl rfl rfl (r_move rfl rfl) ?_
  refine OJ.cut (X := Option Value × Option Value × Unit) 2 (fun x h nx => H105_g2 k  v4_1 x.1 x.2.1 h nx) (fun x => [(6, x.1), (7, x.2.1), (5, (some v4_1))]) ?_ (fun next => ?_)
  · intro ⟨o6_3, o7_3, _u⟩ h nx H
    refine OJ.rd rfl rfl rfl (r_pick rfl rfl rfl rfl H) ?_
    intro v8_4 H
    refine OJ.mv rfl rfl rfl (r_assign rfl rfl) ?_
    refine OJ.fin ?_
    refine CJ.ret1 ?_
    exact ret_one (Or.inr rfl) rfl rfl H
  · rcases hG_true H with ⟨g, H⟩ | ⟨g, H⟩
    · refine OJ.gmv rfl rfl rfl g rfl rfl (r_move rfl rfl) ?_
      refine OJ.grd rfl rfl rfl g rfl rfl (r_bin rfl rfl rfl H) ?_
      intro v7_5 H
      exact OJ.weaken [(6, (some a0)), (7, (some v7_5)), (5, (some v4_1))] (And.intro rfl (And.intro rfl (And.intro rfl True.intro))) (next ((some a0), (some v7_5), ()) _ _ H)
    · refine OJ.no rfl rfl rfl g rfl rfl ?_
      refine OJ.no rfl rfl rfl g rfl rfl ?_
      exact OJ.weaken [(6, none), (7, none), (5, (some v4_1))] (And.intro rfl (And.intro rfl (And.intro rfl True.intro))) (next (none, none, ()) _ _ H)

/-! 65 -/
noncomputable def H65_j2 (k : KV)   (h : Heap) (nx : Nat) : Bool :=
  k (.int .i64 (.ofNat 0)) h nx
noncomputable def H65_g26 (k : KV)  (v34_21 : Value) (o44_27 : Option Value) (h : Heap) (nx : Nat) : Bool :=
  hPick v34_21 (some (.bool true)) o44_27 fun v45_28 =>
  hIf v45_28 (fun _ => false) (fun _ => H65_j2 k   h nx)
noncomputable def H65_g24 (k : KV)  (v34_21 : Value) (o39_23 : Option Value) (o40_25 : Option Value) (o41_25 : Option Value) (o42_25 : Option Value) (o43_25 : Option Value) (h : Heap) (nx : Nat) : Bool :=
  hG (some v34_21) false (fun _ => optK o39_23 fun v39_29 =>
  hPick v39_29 o43_25 (some (.bool false)) fun v44_30 =>
  H65_g26 k  v34_21 (some v44_30) h nx) (fun _ => H65_g26 k  v34_21 none h nx)
noncomputable def H65_g22 (k : KV)  (v1_1 : Value) (v34_21 : Value) (o36_23 : Option Value) (o37_23 : Option Value) (o38_23 : Option Value) (o39_23 : Option Value) (h : Heap) (nx : Nat) : Bool :=
  hG o39_23 true (fun _ => hFieldAddr Tryz.prog 24 v1_1 4 fun v40_31 =>
  loadK Tryz.prog 22 v40_31 h fun v41_32 =>
  lenK Tryz.prog 22 v41_32 h fun v42_33 =>
  binK Tryz.prog .gtr 3 (.tmp 42) (.const (.int .i64 (.ofNat 0))) v42_33 (.int .i64 (.ofNat 0)) fun v43_34 =>
  H65_g24 k  v34_21 o39_23 (some v40_31) (some v41_32) (some v42_33) (some v43_34) h nx) (fun _ => H65_g24 k  v34_21 o39_23 none none none none h nx)
noncomputable def H65_g19 (k : KV)  (v1_1 : Value) (v28_18 : Value) (o30_20 : Option Value) (o31_20 : Option Value) (o32_20 : Option Value) (o33_20 : Option Value) (h : Heap) (nx : Nat) : Bool :=
  hPick v28_18 (some (.bool true)) o33_20 fun v34_21 =>
  hG (some v34_21) false (fun _ => hFieldAddr Tryz.prog 24 v1_1 0 fun v36_35 =>
  loadK Tryz.prog 3 v36_35 h fun v37_36 =>
  binK Tryz.prog .neq 3 (.tmp 37) (.const (.int .i64 (.ofNat 3))) v37_36 (.int .i64 (.ofNat 3)) fun v38_37 =>
  H65_g22 k  v1_1 v34_21 (some v36_35) (some v37_36) (some v38_37) (some v38_37) h nx) (fun _ => H65_g22 k  v1_1 v34_21 none none none none h nx)
noncomputable def H65_g16 (k : KV)  (v1_1 : Value) (v22_15 : Value) (o24_17 : Option Value) (o25_17 : Option Value) (o26_17 : Option Value) (o27_17 : Option Value) (h : Heap) (nx : Nat) : Bool :=
  hPick v22_15 (some (.bool true)) o27_17 fun v28_18 =>
  hG (some v28_18) false (fun _ => hFieldAddr Tryz.prog 24 v1_1 4 fun v30_38 =>
  loadK Tryz.prog 22 v30_38 h fun v31_39 =>
  lenK Tryz.prog 22 v31_39 h fun v32_40 =>
  binK Tryz.prog .gtr 3 (.tmp 32) (.const (.int .i64 (.ofNat 16384))) v32_40 (.int .i64 (.ofNat 16384)) fun v33_41 =>
  H65_g19 k  v1_1 v28_18 (some v30_38) (some v31_39) (some v32_40) (some v33_41) h nx) (fun _ => H65_g19 k  v1_1 v28_18 none none none none h nx)
noncomputable def H65_g13 (k : KV)  (v1_1 : Value) (v16_12 : Value) (o18_14 : Option Value) (o19_14 : Option Value) (o20_14 : Option Value) (o21_14 : Option Value) (h : Heap) (nx : Nat) : Bool :=
  hPick v16_12 (some (.bool true)) o21_14 fun v22_15 =>
  hG (some v22_15) false (fun _ => hFieldAddr Tryz.prog 24 v1_1 3 fun v24_42 =>
  loadK Tryz.prog 3 v24_42 h fun v25_43 =>
  H105 v25_43 h nx fun v26_44 h44 nx44 =>
  hUn Tryz.prog .not v26_44 fun v27_45 =>
  H65_g16 k  v1_1 v22_15 (some v24_42) (some v25_43) (some v26_44) (some v27_45) h44 nx44) (fun _ => H65_g16 k  v1_1 v22_15 none none none none h nx)
noncomputable def H65_g10 (k : KV)  (v1_1 : Value) (v10_9 : Value) (o12_11 : Option Value) (o13_11 : Option Value) (o14_11 : Option Value) (o15_11 : Option Value) (h : Heap) (nx : Nat) : Bool :=
  hPick v10_9 (some (.bool true)) o15_11 fun v16_12 =>
  hG (some v16_12) false (fun _ => hFieldAddr Tryz.prog 24 v1_1 2 fun v18_46 =>
  loadK Tryz.prog 3 v18_46 h fun v19_47 =>
  H105 v19_47 h nx fun v20_48 h48 nx48 =>
  hUn Tryz.prog .not v20_48 fun v21_49 =>
  H65_g13 k  v1_1 v16_12 (some v18_46) (some v19_47) (some v20_48) (some v21_49) h48 nx48) (fun _ => H65_g13 k  v1_1 v16_12 none none none none h nx)
noncomputable def H65_g7 (k : KV)  (v1_1 : Value) (v5_6 : Value) (o7_8 : Option Value) (o8_8 : Option Value) (o9_8 : Option Value) (h : Heap) (nx : Nat) : Bool :=
  hPick v5_6 (some (.bool true)) o9_8 fun v10_9 =>
  hG (some v10_9) false (fun _ => hFieldAddr Tryz.prog 24 v1_1 1 fun v12_50 =>
  loadK Tryz.prog 3 v12_50 h fun v13_51 =>
  H105 v13_51 h nx fun v14_52 h52 nx52 =>
  hUn Tryz.prog .not v14_52 fun v15_53 =>
  H65_g10 k  v1_1 v10_9 (some v12_50) (some v13_51) (some v14_52) (some v15_53) h52 nx52) (fun _ => H65_g10 k  v1_1 v10_9 none none none none h nx)
noncomputable def H65 (a0 : Value) (h : Heap) (nx : Nat) (k : KV) : Bool :=
  hBox a0 h nx fun v1_1 h1 nx1 =>
  hFieldAddr Tryz.prog 24 v1_1 0 fun v3_4 =>
  loadK Tryz.prog 3 v3_4 h1 fun v4_5 =>
  binK Tryz.prog .lss 3 (.tmp 4) (.const (.int .i64 (.ofNat 1))) v4_5 (.int .i64 (.ofNat 1)) fun v5_6 =>
  hG (some v5_6) false (fun _ => hFieldAddr Tryz.prog 24 v1_1 0 fun v7_54 =>
  loadK Tryz.prog 3 v7_54 h1 fun v8_55 =>
  binK Tryz.prog .geq 3 (.tmp 8) (.const (.int .i64 (.ofNat 6))) v8_55 (.int .i64 (.ofNat 6)) fun v9_56 =>
  H65_g7 k  v1_1 v5_6 (some v7_54) (some v8_55) (some v9_56) h1 nx1) (fun _ => H65_g7 k  v1_1 v5_6 none none none h1 nx1)
theorem sim65 {a0 : Value} {h : Heap} {nx : Nat} {k : KV} (H : H65 a0 h nx k = true) : ∃ v h' nx', k v h' nx' = true ∧ CallSim Tryz.prog 65 [a0] h nx v h' nx' := by
  refine fn_rule Tryz.func65 rfl rfl ?_
  refine CJ.seq ?_
  refine CJ.region ?_
  refine OJ.fu rfl rfl rfl (r_box rfl rfl H) ?_
  intro v1_1 h1 nx1 H
  refine OJ.mv rfl rfl rfl (r_assign rfl rfl) ?_
  refine OJ.fin ?_
  refine CJ.seq (CJ.cut (X := Unit) (fun x h nx => H65_j2 k   h nx) (fun x => []) ?_ ?_)
  · refine CJ.seq ?_
    refine CJ.region ?_
    refine OJ.rd rfl rfl rfl (r_fieldAddr rfl rfl H) ?_
    intro v3_4 H
    refine OJ.rd rfl rfl rfl (r_load rfl rfl H) ?_
    intro v4_5 H
    refine OJ.rd rfl rfl rfl (r_bin rfl rfl rfl H) ?_
    intro v5_6 H
    refine OJ.mv rfl rfl rfl (r_move rfl rfl) ?_
    refine OJ.cut (X := Option Value × Option Value × Option Value × Unit) 3 (fun x h nx => H65_g7 k  v1_1 v5_6 x.1 x.2.1 x.2.2.1 h nx) (fun x => [(7, x.1), (8, x.2.1), (9, x.2.2.1), (1, (some v1_1)), (6, (some v5_6))]) ?_ (fun next => ?_)
    · intro ⟨o7_8, o8_8, o9_8, _u⟩ h nx H
      refine OJ.rd rfl rfl rfl (r_pick rfl rfl rfl rfl H) ?_
      intro v10_9 H
      refine OJ.mv rfl rfl rfl (r_move rfl rfl) ?_
      refine OJ.cut (X := Option Value × Option Value × Option Value × Option Value × Unit) 4 (fun x h nx => H65_g10 k  v1_1 v10_9 x.1 x.2.1 x.2.2.1 x.2.2.2.1 h nx) (fun x => [(12, x.1), (13, x.2.1), (14, x.2.2.1), (15, x.2.2.2.1), (1, (some v1_1)), (11, (some v10_9))]) ?_ (fun next => ?_)
      · intro ⟨o12_11, o13_11, o14_11, o15_11, _u⟩ h nx H
        refine OJ.rd rfl rfl rfl (r_pick rfl rfl rfl rfl H) ?_
        intro v16_12 H
        refine OJ.mv rfl rfl rfl (r_move rfl rfl) ?_
        refine OJ.cut (X := Option Value × Option Value × Option Value × Option Value × Unit) 4 (fun x h nx => H65_g13 k  v1_1 v16_12 x.1 x.2.1 x.2.2.1 x.2.2.2.1 h nx) (fun x => [(18, x.1), (19, x.2.1), (20, x.2.2.1), (21, x.2.2.2.1), (1, (some v1_1)), (17, (some v16_12))]) ?_ (fun next => ?_)
        · intro ⟨o18_14, o19_14, o20_14, o21_14, _u⟩ h nx H
          refine OJ.rd rfl rfl rfl (r_pick rfl rfl rfl rfl H) ?_
          intro v22_15 H
          refine OJ.mv rfl rfl rfl (r_move rfl rfl) ?_
          refine OJ.cut (X := Option Value × Option Value × Option Value × Option Value × Unit) 4 (fun x h nx => H65_g16 k  v1_1 v22_15 x.1 x.2.1 x.2.2.1 x.2.2.2.1 h nx) (fun x => [(24, x.1), (25, x.2.1), (26, x.2.2.1), (27, x.2.2.2.1), (1, (some v1_1)), (23, (some v22_15))]) ?_ (fun next => ?_)
          · intro ⟨o24_17, o25_17, o26_17, o27_17, _u⟩ h nx H
            refine OJ.rd rfl rfl rfl (r_pick rfl rfl rfl rfl H) ?_
            intro v28_18 H
            refine OJ.mv rfl rfl rfl (r_move rfl rfl) ?_
            refine OJ.cut (X := Option Value × Option Value × Option Value × Option Value × Unit) 4 (fun x h nx => H65_g19 k  v1_1 v28_18 x.1 x.2.1 x.2.2.1 x.2.2.2.1 h nx) (fun x => [(30, x.1), (31, x.2.1), (32, x.2.2.1), (33, x.2.2.2.1), (1, (some v1_1)), (29, (some v28_18))]) ?_ (fun next => ?_)
            · intro ⟨o30_20, o31_20, o32_20, o33_20, _u⟩ h nx H
              refine OJ.rd rfl rfl rfl (r_pick rfl rfl rfl rfl H) ?_
              intro v34_21 H
              refine OJ.mv rfl rfl rfl (r_move rfl rfl) ?_
              refine OJ.cut (X := Option Value × Option Value × Option Value × Option Value × Unit) 4 (fun x h nx => H65_g22 k  v1_1 v34_21 x.1 x.2.1 x.2.2.1 x.2.2.2.1 h nx) (fun x => [(36, x.1), (37, x.2.1), (38, x.2.2.1), (39, x.2.2.2.1), (1, (some v1_1)), (35, (some v34_21))]) ?_ (fun next => ?_)
              · intro ⟨o36_23, o37_23, o38_23, o39_23, _u⟩ h nx H
                refine OJ.cut (X := Option Value × Option Value × Option Value × Option Value × Unit) 4 (fun x h nx => H65_g24 k  v34_21 o39_23 x.1 x.2.1 x.2.2.1 x.2.2.2.1 h nx) (fun x => [(40, x.1), (41, x.2.1), (42, x.2.2.1), (43, x.2.2.2.1), (35, (some v34_21)), (39, o39_23)]) ?_ (fun next => ?_)
                · intro ⟨o40_25, o41_25, o42_25, o43_25, _u⟩ h nx H
                  refine OJ.cut (X := Option Value × Unit) 1 (fun x h nx => H65_g26 k  v34_21 x.1 h nx) (fun x => [(44, x.1), (35, (some v34_21))]) ?_ (fun next => ?_)
                  · intro ⟨o44_27, _u⟩ h nx H
                    refine OJ.rd rfl rfl rfl (r_pick rfl rfl rfl rfl H) ?_
                    intro v45_28 H
                    refine OJ.fin ?_
                    refine CJ.ite rfl H (fun H => ?_) (fun H => ?_)
                    · cases H
                    · exact CJ.skip [] True.intro (Exists.intro () (And.intro rfl H))
                  · rcases hG_true H with ⟨g, H⟩ | ⟨g, H⟩
                    · obtain ⟨v39_29, eq_, G_⟩ := optK_true H
                      clear H
                      subst eq_
                      have H := G_
                      clear G_
                      refine OJ.grd rfl rfl rfl g rfl rfl (r_pick rfl rfl rfl rfl H) ?_
                      intro v44_30 H
                      exact OJ.weaken [(44, (some v44_30)), (35, (some v34_21))] (And.intro rfl (And.intro rfl True.intro)) (next ((some v44_30), ()) _ _ H)
                    · refine OJ.no rfl rfl rfl g rfl rfl ?_
                      exact OJ.weaken [(44, none), (35, (some v34_21))] (And.intro rfl (And.intro rfl True.intro)) (next (none, ()) _ _ H)
                · rcases hG_true H with ⟨g, H⟩ | ⟨g, H⟩
                  · refine OJ.grd rfl rfl rfl g rfl rfl (r_fieldAddr rfl rfl H) ?_
                    intro v40_31 H
                    refine OJ.grd rfl rfl rfl g rfl rfl (r_load rfl rfl H) ?_
                    intro v41_32 H
                    refine OJ.grd rfl rfl rfl g rfl rfl (r_len (x := default) rfl rfl (And.intro rfl True.intro) rfl H) ?_
                    intro v42_33 H
                    refine OJ.grd rfl rfl rfl g rfl rfl (r_bin rfl rfl rfl H) ?_
                    intro v43_34 H
                    exact OJ.weaken [(40, (some v40_31)), (41, (some v41_32)), (42, (some v42_33)), (43, (some v43_34)), (35, (some v34_21)), (39, o39_23)] (And.intro rfl (And.intro rfl (And.intro rfl (And.intro rfl (And.intro rfl (And.intro rfl True.intro)))))) (next ((some v40_31), (some v41_32), (some v42_33), (some v43_34), ()) _ _ H)
                  · refine OJ.no rfl rfl rfl g rfl rfl ?_
                    refine OJ.no rfl rfl rfl g rfl rfl ?_
                    refine OJ.no rfl rfl rfl g rfl rfl ?_
                    refine OJ.no rfl rfl rfl g rfl rfl ?_
                    exact OJ.weaken [(40, none), (41, none), (42, none), (43, none), (35, (some v34_21)), (39, o39_23)] (And.intro rfl (And.intro rfl (And.intro rfl (And.intro rfl (And.intro rfl (And.intro rfl True.intro)))))) (next (none, none, none, none, ()) _ _ H)
              · rcases hG_true H with ⟨g, H⟩ | ⟨g, H⟩
                · refine OJ.grd rfl rfl rfl g rfl rfl (r_fieldAddr rfl rfl H) ?_
                  intro v36_35 H
                  refine OJ.grd rfl rfl rfl g rfl rfl (r_load rfl rfl H) ?_
                  intro v37_36 H
                  refine OJ.grd rfl rfl rfl g rfl rfl (r_bin rfl rfl rfl H) ?_
                  intro v38_37 H
                  refine OJ.gmv rfl rfl rfl g rfl rfl (r_move rfl rfl) ?_
                  exact OJ.weaken [(36, (some v36_35)), (37, (some v37_36)), (38, (some v38_37)), (39, (some v38_37)), (1, (some v1_1)), (35, (some v34_21))] (And.intro rfl (And.intro rfl (And.intro rfl (And.intro rfl (And.intro rfl (And.intro rfl True.intro)))))) (next ((some v36_35), (some v37_36), (some v38_37), (some v38_37), ()) _ _ H)
                · refine OJ.no rfl rfl rfl g rfl rfl ?_
                  refine OJ.no rfl rfl rfl g rfl rfl ?_
                  refine OJ.no rfl rfl rfl g rfl rfl ?_
                  refine OJ.no rfl rfl rfl g rfl rfl ?_
                  exact OJ.weaken [(36, none), (37, none), (38, none), (39, none), (1, (some v1_1)), (35, (some v34_21))] (And.intro rfl (And.intro rfl (And.intro rfl (And.intro rfl (And.intro rfl (And.intro rfl True.intro)))))) (next (none, none, none, none, ()) _ _ H)
            · rcases hG_true H with ⟨g, H⟩ | ⟨g, H⟩
              · refine OJ.grd rfl rfl rfl g rfl rfl (r_fieldAddr rfl rfl H) ?_
                intro v30_38 H
                refine OJ.grd rfl rfl rfl g rfl rfl (r_load rfl rfl H) ?_
                intro v31_39 H
                refine OJ.grd rfl rfl rfl g rfl rfl (r_len (x := default) rfl rfl (And.intro rfl True.intro) rfl H) ?_
                intro v32_40 H
                refine OJ.grd rfl rfl rfl g rfl rfl (r_bin rfl rfl rfl H) ?_
                intro v33_41 H
                exact OJ.weaken [(30, (some v30_38)), (31, (some v31_39)), (32, (some v32_40)), (33, (some v33_41)), (1, (some v1_1)), (29, (some v28_18))] (And.intro rfl (And.intro rfl (And.intro rfl (And.intro rfl (And.intro rfl (And.intro rfl True.intro)))))) (next ((some v30_38), (some v31_39), (some v32_40), (some v33_41), ()) _ _ H)
              · refine OJ.no rfl rfl rfl g rfl rfl ?_
                refine OJ.no rfl rfl rfl g rfl rfl ?_
                refine OJ.no rfl rfl rfl g rfl rfl ?_
                refine OJ.no rfl rfl rfl g rfl rfl ?_
                exact OJ.weaken [(30, none), (31, none), (32, none), (33, none), (1, (some v1_1)), (29, (some v28_18))] (And.intro rfl (And.intro rfl (And.intro rfl (And.intro rfl (And.intro rfl (And.intro rfl True.intro)))))) (next (none, none, none, none, ()) _ _ H)
          · rcases hG_true H with ⟨g, H⟩ | ⟨g, H⟩
            · refine OJ.grd rfl rfl rfl g rfl rfl (r_fieldAddr rfl rfl H) ?_
              intro v24_42 H
              refine OJ.grd rfl rfl rfl g rfl rfl (r_load rfl rfl H) ?_
              intro v25_43 H
              refine OJ.gfu rfl rfl rfl g rfl rfl (r_call (args := [v25_43]) rfl rfl rfl (And.intro rfl True.intro) Tryz.call105 (sim105 H)) ?_
              intro v26_44 h44 nx44 H
              refine OJ.grd rfl rfl rfl g rfl rfl (r_un rfl rfl H) ?_
              intro v27_45 H
              exact OJ.weaken [(24, (some v24_42)), (25, (some v25_43)), (26, (some v26_44)), (27, (some v27_45)), (1, (some v1_1)), (23, (some v22_15))] (And.intro rfl (And.intro rfl (And.intro rfl (And.intro rfl (And.intro rfl (And.intro rfl True.intro)))))) (next ((some v24_42), (some v25_43), (some v26_44), (some v27_45), ()) _ _ H)
            · refine OJ.no rfl rfl rfl g rfl rfl ?_
              refine OJ.no rfl rfl rfl g rfl rfl ?_
              refine OJ.no rfl rfl rfl g rfl rfl ?_
              refine OJ.no rfl rfl rfl g rfl rfl ?_
              exact OJ.weaken [(24, none), (25, none), (26, none), (27, none), (1, (some v1_1)), (23, (some v22_15))] (And.intro rfl (And.intro rfl (And.intro rfl (And.intro rfl (And.intro rfl (And.intro rfl True.intro)))))) (next (none, none, none, none, ()) _ _ H)
        · rcases hG_true H with ⟨g, H⟩ | ⟨g, H⟩
          · refine OJ.grd rfl rfl rfl g rfl rfl (r_fieldAddr rfl rfl H) ?_
            intro v18_46 H
            refine OJ.grd rfl rfl rfl g rfl rfl (r_load rfl rfl H) ?_
            intro v19_47 H
            refine OJ.gfu rfl rfl rfl g rfl rfl (r_call (args := [v19_47]) rfl rfl rfl (And.intro rfl True.intro) Tryz.call105 (sim105 H)) ?_
            intro v20_48 h48 nx48 H
            refine OJ.grd rfl rfl rfl g rfl rfl (r_un rfl rfl H) ?_
            intro v21_49 H
            exact OJ.weaken [(18, (some v18_46)), (19, (some v19_47)), (20, (some v20_48)), (21, (some v21_49)), (1, (some v1_1)), (17, (some v16_12))] (And.intro rfl (And.intro rfl (And.intro rfl (And.intro rfl (And.intro rfl (And.intro rfl True.intro)))))) (next ((some v18_46), (some v19_47), (some v20_48), (some v21_49), ()) _ _ H)
          · refine OJ.no rfl rfl rfl g rfl rfl ?_
            refine OJ.no rfl rfl rfl g rfl rfl ?_
            refine OJ.no rfl rfl rfl g rfl rfl ?_
            refine OJ.no rfl rfl rfl g rfl rfl ?_
            exact OJ.weaken [(18, none), (19, none), (20, none), (21, none), (1, (some v1_1)), (17, (some v16_12))] (And.intro rfl (And.intro rfl (And.intro rfl (And.intro rfl (And.intro rfl (And.intro rfl True.intro)))))) (next (none, none, none, none, ()) _ _ H)
      · rcases hG_true H with ⟨g, H⟩ | ⟨g, H⟩
        · refine OJ.grd rfl rfl rfl g rfl rfl (r_fieldAddr rfl rfl H) ?_
          intro v12_50 H
          refine OJ.grd rfl rfl rfl g rfl rfl (r_load rfl rfl H) ?_
          intro v13_51 H
          refine OJ.gfu rfl rfl rfl g rfl rfl (r_call (args := [v13_51]) rfl rfl rfl (And.intro rfl True.intro) Tryz.call105 (sim105 H)) ?_
          intro v14_52 h52 nx52 H
          refine OJ.grd rfl rfl rfl g rfl rfl (r_un rfl rfl H) ?_
          intro v15_53 H
          exact OJ.weaken [(12, (some v12_50)), (13, (some v13_51)), (14, (some v14_52)), (15, (some v15_53)), (1, (some v1_1)), (11, (some v10_9))] (And.intro rfl (And.intro rfl (And.intro rfl (And.intro rfl (And.intro rfl (And.intro rfl True.intro)))))) (next ((some v12_50), (some v13_51), (some v14_52), (some v15_53), ()) _ _ H)
        · refine OJ.no rfl rfl rfl g rfl rfl ?_
          refine OJ.no rfl rfl rfl g rfl rfl ?_
          refine OJ.no rfl rfl rfl g rfl rfl ?_
          refine OJ.no rfl rfl rfl g rfl rfl ?_
          exact OJ.weaken [(12, none), (13, none), (14, none), (15, none), (1, (some v1_1)), (11, (some v10_9))] (And.intro rfl (And.intro rfl (And.intro rfl (And.intro rfl (And.intro rfl (And.intro rfl True.intro)))))) (next (none, none, none, none, ()) _ _ H)
    · rcases hG_true H with ⟨g, H⟩ | ⟨g, H⟩
      · refine OJ.grd rfl rfl rfl g rfl rfl (r_fieldAddr rfl rfl H) ?_
        intro v7_54 H
        refine OJ.grd rfl rfl rfl g rfl rfl (r_load rfl rfl H) ?_
        intro v8_55 H
        refine OJ.grd rfl rfl rfl g rfl rfl (r_bin rfl rfl rfl H) ?_
        intro v9_56 H
        exact OJ.weaken [(7, (some v7_54)), (8, (some v8_55)), (9, (some v9_56)), (1, (some v1_1)), (6, (some v5_6))] (And.intro rfl (And.intro rfl (And.intro rfl (And.intro rfl (And.intro rfl True.intro))))) (next ((some v7_54), (some v8_55), (some v9_56), ()) _ _ H)
      · refine OJ.no rfl rfl rfl g rfl rfl ?_
        refine OJ.no rfl rfl rfl g rfl rfl ?_
        refine OJ.no rfl rfl rfl g rfl rfl ?_
        exact OJ.weaken [(7, none), (8, none), (9, none), (1, (some v1_1)), (6, (some v5_6))] (And.intro rfl (And.intro rfl (And.intro rfl (And.intro rfl (And.intro rfl True.intro))))) (next (none, none, none, ()) _ _ H)
  · intro _u h nx H
    refine CJ.seq ?_
    refine CJ.region ?_
    refine OJ.mv rfl rfl rfl (r_assign rfl rfl) ?_
    refine OJ.fin ?_
    refine CJ.ret1 ?_
    exact ret_one (Or.inr rfl) rfl rfl H

/-! 106 -/
noncomputable def H106_j1 (k : KV)  (a0_2 : Value) (h : Heap) (nx : Nat) : Bool :=
  binK Tryz.prog .mul 3 (.const (.int .i64 (.ofNat 8))) (.tmp 5) (.int .i64 (.ofNat 8)) a0_2 fun v6_3 =>
  binK Tryz.prog .shl 3 (.const (.int .i64 (.ofNat 1))) (.tmp 6) (.int .i64 (.ofNat 1)) v6_3 fun v7_4 =>
  binK Tryz.prog .sub 3 (.tmp 7) (.const (.int .i64 (.ofNat 1))) v7_4 (.int .i64 (.ofNat 1)) fun v8_5 =>
  k v8_5 h nx
noncomputable def H106 (a0 : Value) (h : Heap) (nx : Nat) (k : KV) : Bool :=
  binK Tryz.prog .eql 3 (.tmp 3) (.const (.int .i64 (.ofNat 4))) a0 (.int .i64 (.ofNat 4)) fun v4_6 =>
  hIf v4_6 (fun _ => k (.int .i64 (.ofNat 2147483647)) h nx) (fun _ => H106_j1 k  a0 h nx)
theorem sim106 {a0 : Value} {h : Heap} {nx : Nat} {k : KV} (H : H106 a0 h nx k = true) : ∃ v h' nx', k v h' nx' = true ∧ CallSim Tryz.prog 106 [a0] h nx v h' nx' := by
  refine fn_rule Tryz.func106 rfl rfl ?_
  refine CJ.seq ?_
  refine CJ.region ?_
  refine OJ.mv rfl rfl rfl (r_assign rfl rfl) ?_
  refine OJ.fin ?_
  refine CJ.seq (CJ.cut (X := Value × Unit) (fun x h nx => H106_j1 k  x.1 h nx) (fun x => [(0, some x.1)]) ?_ ?_)
  · refine CJ.seq ?_
    refine CJ.region ?_
    refine OJ.mv rfl rfl rfl (r_move rfl rfl) ?_
    refine OJ.rd rfl rfl rfl (r_bin rfl rfl rfl H) ?_
    intro v4_6 H
    refine OJ.fin ?_
    refine CJ.ite rfl H (fun H => ?_) (fun H => ?_)
    · refine CJ.seq ?_
      refine CJ.region ?_
      refine OJ.mv rfl rfl rfl (r_assign rfl rfl) ?_
      refine OJ.fin ?_
      refine CJ.ret1 ?_
      exact ret_one (Or.inr rfl) rfl rfl H
    · exact CJ.skip [(0, (some a0))] (And.intro rfl True.intro) (Exists.intro (a0, ()) (And.intro rfl H))
  · intro ⟨a0_2, _u⟩ h nx H
    refine CJ.seq ?_
    refine CJ.region ?_
    refine OJ.mv rfl rfl rfl (r_move rfl rfl) ?_
    refine OJ.rd rfl rfl rfl (r_bin rfl rfl rfl H) ?_
    intro v6_3 H
    refine OJ.rd rfl rfl rfl (r_bin rfl rfl rfl H) ?_
    intro v7_4 H
    refine OJ.rd rfl rfl rfl (r_bin rfl rfl rfl H) ?_
    intro v8_5 H
    refine OJ.mv rfl rfl rfl (r_assign rfl rfl) ?_
    refine OJ.fin ?_
    refine CJ.ret1 ?_
    exact ret_one (Or.inr rfl) rfl rfl H

/-! 66 -/
noncomputable def H66_j5 (k : KV)  (a8_6 : Value) (h : Heap) (nx : Nat) : Bool :=
  hRet [a8_6, (.int .i64 (.ofNat 0))] h nx k
noncomputable def H66_j12 (k : KV) (ih8 : Value → Value → Value → Heap → Nat → Bool) (a1_13 : Value) (a8_13 : Value) (a9_13 : Value) (h : Heap) (nx : Nat) : Bool :=
  binK Tryz.prog .sub 3 (.tmp 33) (.const (.int .i64 (.ofNat 1))) a9_13 (.int .i64 (.ofNat 1)) fun v34_14 =>
  ih8 a1_13 a8_13 v34_14 h nx
noncomputable def H66_j10 (k : KV) (ih8 : Value → Value → Value → Heap → Nat → Bool) (a1_11 : Value) (a8_11 : Value) (a9_11 : Value) (h : Heap) (nx : Nat) : Bool :=
  binK Tryz.prog .mul 3 (.const (.int .i64 (.ofNat 8))) (.tmp 37) (.int .i64 (.ofNat 8)) a9_11 fun v38_15 =>
  binK Tryz.prog .shr 3 (.tmp 36) (.tmp 38) a1_11 v38_15 fun v39_16 =>
  hConv Tryz.prog 3 5 v39_16 h fun v40_17 =>
  hBuildSlice Tryz.prog 22 1 [(0, v40_17)] h nx fun v41_18 h18 nx18 =>
  hAppend Tryz.prog 22 22 a8_11 v41_18 h18 nx18 fun v42_19 h19 nx19 =>
  H66_j12 k ih8 a1_11 v42_19 a9_11 h19 nx19
noncomputable def H66_l8 (k : KV)  (n : Nat) : Value → Value → Value → Heap → Nat → Bool :=
  Nat.rec (motive := fun _ => Value → Value → Value → Heap → Nat → Bool) (fun _ _ _ _ _ => false) (fun _ ih8 a1_9 a8_9 a9_9 h nx => binK Tryz.prog .geq 3 (.tmp 31) (.const (.int .i64 (.ofNat 0))) a9_9 (.int .i64 (.ofNat 0)) fun v32_20 =>
  hIf v32_20 (fun _ => H66_j10 k ih8 a1_9 a8_9 a9_9 h nx) (fun _ => H66_j5 k  a8_9 h nx)) n
noncomputable def H66_j1 (k : KV)  (a0_2 : Value) (a1_2 : Value) (a2_2 : Value) (h : Heap) (nx : Nat) : Bool :=
  hBuildSlice Tryz.prog 22 0 [] h nx fun v26_3 h3 nx3 =>
  hAppend Tryz.prog 22 22 v26_3 a0_2 h3 nx3 fun v28_4 h4 nx4 =>
  binK Tryz.prog .sub 3 (.tmp 29) (.const (.int .i64 (.ofNat 1))) a2_2 (.int .i64 (.ofNat 1)) fun v30_7 =>
  H66_l8 k  200000 a1_2 v28_4 v30_7 h4 nx4
noncomputable def H66_g26 (k : KV)  (a0 : Value) (a1 : Value) (a2 : Value) (v19_25 : Value) (o21_27 : Option Value) (o22_27 : Option Value) (o23_27 : Option Value) (o24_27 : Option Value) (h : Heap) (nx : Nat) : Bool :=
  hPick v19_25 (some (.bool true)) o24_27 fun v25_28 =>
  hIf v25_28 (fun _ => false) (fun _ => H66_j1 k  a0 a1 a2 h nx)
noncomputable def H66_g22 (k : KV)  (a0 : Value) (a1 : Value) (a2 : Value) (v12_21 : Value) (o14_23 : Option Value) (o15_23 : Option Value) (h : Heap) (nx : Nat) : Bool :=
  hPick v12_21 (some (.bool true)) o15_23 fun v16_24 =>
  hIf v16_24 (fun _ => false) (fun _ => binK Tryz.prog .lss 3 (.tmp 18) (.const (.int .i64 (.ofNat 0))) a1 (.int .i64 (.ofNat 0)) fun v19_25 =>
  hG (some v19_25) false (fun _ => H106 a2 h nx fun v23_29 h29 nx29 =>
  binK Tryz.prog .gtr 3 (.tmp 21) (.tmp 23) a1 v23_29 fun v24_30 =>
  H66_g26 k  a0 a1 a2 v19_25 (some a1) (some a2) (some v23_29) (some v24_30) h29 nx29) (fun _ => H66_g26 k  a0 a1 a2 v19_25 none none none none h nx))
noncomputable def H66 (a0 : Value) (a1 : Value) (a2 : Value) (h : Heap) (nx : Nat) (k : KV) : Bool :=
  binK Tryz.prog .lss 3 (.tmp 11) (.const (.int .i64 (.ofNat 1))) a2 (.int .i64 (.ofNat 1)) fun v12_21 =>
  hG (some v12_21) false (fun _ => binK Tryz.prog .gtr 3 (.tmp 14) (.const (.int .i64 (.ofNat 4))) a2 (.int .i64 (.ofNat 4)) fun v15_31 =>
  H66_g22 k  a0 a1 a2 v12_21 (some a2) (some v15_31) h nx) (fun _ => H66_g22 k  a0 a1 a2 v12_21 none none h nx)
theorem sim66 {a0 a1 a2 : Value} {h : Heap} {nx : Nat} {k : KV} (H : H66 a0 a1 a2 h nx k = true) : ∃ v h' nx', k v h' nx' = true ∧ CallSim Tryz.prog 66 [a0, a1, a2] h nx v h' nx' := by
  refine fn_rule Tryz.func66 rfl rfl ?_
  refine CJ.seq ?_
  refine CJ.region ?_
  refine OJ.mv rfl rfl rfl (r_assign rfl rfl) ?_
  refine OJ.mv rfl rfl rfl (r_assign rfl rfl) ?_
  refine OJ.fin ?_
  refine CJ.seq (CJ.cut (X := Value × Value × Value × Unit) (fun x h nx => H66_j1 k  x.1 x.2.1 x.2.2.1 h nx) (fun x => [(0, some x.1), (1, some x.2.1), (2, some x.2.2.1)]) ?_ ?_)
  · refine CJ.block ?_
    refine CJ.seq ?_
    refine CJ.region ?_
    refine OJ.mv rfl rfl rfl (r_move rfl rfl) ?_
    refine OJ.rd rfl rfl rfl (r_bin rfl rfl rfl H) ?_
    intro v12_21 H
    refine OJ.mv rfl rfl rfl (r_move rfl rfl) ?_
    refine OJ.cut (X := Option Value × Option Value × Unit) 2 (fun x h nx => H66_g22 k  a0 a1 a2 v12_21 x.1 x.2.1 h nx) (fun x => [(14, x.1), (15, x.2.1), (0, (some a0)), (1, (some a1)), (2, (some a2)), (13, (some v12_21))]) ?_ (fun next => ?_)
    · intro ⟨o14_23, o15_23, _u⟩ h nx H
      refine OJ.rd rfl rfl rfl (r_pick rfl rfl rfl rfl H) ?_
      intro v16_24 H
      refine OJ.mv rfl rfl rfl (r_assign rfl rfl) ?_
      refine OJ.fin ?_
      refine CJ.ite rfl H (fun H => ?_) (fun H => ?_)
      · cases H
      · refine CJ.seq ?_
        refine CJ.region ?_
        refine OJ.mv rfl rfl rfl (r_move rfl rfl) ?_
        refine OJ.rd rfl rfl rfl (r_bin rfl rfl rfl H) ?_
        intro v19_25 H
        refine OJ.mv rfl rfl rfl (r_move rfl rfl) ?_
        refine OJ.cut (X := Option Value × Option Value × Option Value × Option Value × Unit) 4 (fun x h nx => H66_g26 k  a0 a1 a2 v19_25 x.1 x.2.1 x.2.2.1 x.2.2.2.1 h nx) (fun x => [(21, x.1), (22, x.2.1), (23, x.2.2.1), (24, x.2.2.2.1), (0, (some a0)), (1, (some a1)), (2, (some a2)), (20, (some v19_25))]) ?_ (fun next => ?_)
        · intro ⟨o21_27, o22_27, o23_27, o24_27, _u⟩ h nx H
          refine OJ.rd rfl rfl rfl (r_pick rfl rfl rfl rfl H) ?_
          intro v25_28 H
          refine OJ.mv rfl rfl rfl (r_assign rfl rfl) ?_
          refine OJ.fin ?_
          refine CJ.ite rfl H (fun H => ?_) (fun H => ?_)
          · cases H
          · exact CJ.skip [(0, (some a0)), (1, (some a1)), (2, (some a2))] (And.intro rfl (And.intro rfl (And.intro rfl True.intro))) (Exists.intro (a0, a1, a2, ()) (And.intro rfl H))
        · rcases hG_true H with ⟨g, H⟩ | ⟨g, H⟩
          · refine OJ.gmv rfl rfl rfl g rfl rfl (r_move rfl rfl) ?_
            refine OJ.gmv rfl rfl rfl g rfl rfl (r_move rfl rfl) ?_
            refine OJ.gfu rfl rfl rfl g rfl rfl (r_call (args := [a2]) rfl rfl rfl (And.intro rfl True.intro) Tryz.call106 (sim106 H)) ?_
            intro v23_29 h29 nx29 H
            refine OJ.grd rfl rfl rfl g rfl rfl (r_bin rfl rfl rfl H) ?_
            intro v24_30 H
            exact OJ.weaken [(21, (some a1)), (22, (some a2)), (23, (some v23_29)), (24, (some v24_30)), (0, (some a0)), (1, (some a1)), (2, (some a2)), (20, (some v19_25))] (And.intro rfl (And.intro rfl (And.intro rfl (And.intro rfl (And.intro rfl (And.intro rfl (And.intro rfl (And.intro rfl True.intro)))))))) (next ((some a1), (some a2), (some v23_29), (some v24_30), ()) _ _ H)
          · refine OJ.no rfl rfl rfl g rfl rfl ?_
            refine OJ.no rfl rfl rfl g rfl rfl ?_
            refine OJ.no rfl rfl rfl g rfl rfl ?_
            refine OJ.no rfl rfl rfl g rfl rfl ?_
            exact OJ.weaken [(21, none), (22, none), (23, none), (24, none), (0, (some a0)), (1, (some a1)), (2, (some a2)), (20, (some v19_25))] (And.intro rfl (And.intro rfl (And.intro rfl (And.intro rfl (And.intro rfl (And.intro rfl (And.intro rfl (And.intro rfl True.intro)))))))) (next (none, none, none, none, ()) _ _ H)
    · rcases hG_true H with ⟨g, H⟩ | ⟨g, H⟩
      · refine OJ.gmv rfl rfl rfl g rfl rfl (r_move rfl rfl) ?_
        refine OJ.grd rfl rfl rfl g rfl rfl (r_bin rfl rfl rfl H) ?_
        intro v15_31 H
        exact OJ.weaken [(14, (some a2)), (15, (some v15_31)), (0, (some a0)), (1, (some a1)), (2, (some a2)), (13, (some v12_21))] (And.intro rfl (And.intro rfl (And.intro rfl (And.intro rfl (And.intro rfl (And.intro rfl True.intro)))))) (next ((some a2), (some v15_31), ()) _ _ H)
      · refine OJ.no rfl rfl rfl g rfl rfl ?_
        refine OJ.no rfl rfl rfl g rfl rfl ?_
        exact OJ.weaken [(14, none), (15, none), (0, (some a0)), (1, (some a1)), (2, (some a2)), (13, (some v12_21))] (And.intro rfl (And.intro rfl (And.intro rfl (And.intro rfl (And.intro rfl (And.intro rfl True.intro)))))) (next (none, none, ()) _ _ H)
  · intro ⟨a0_2, a1_2, a2_2, _u⟩ h nx H
    refine CJ.seq ?_
    refine CJ.region ?_
    refine OJ.fu rfl rfl rfl (r_buildSlice (vs := []) rfl True.intro H) ?_
    intro v26_3 h3 nx3 H
    refine OJ.mv rfl rfl rfl (r_move rfl rfl) ?_
    refine OJ.fu rfl rfl rfl (r_append1 rfl rfl (And.intro rfl (And.intro rfl True.intro)) rfl H) ?_
    intro v28_4 h4 nx4 H
    refine OJ.mv rfl rfl rfl (r_assign rfl rfl) ?_
    refine OJ.fin ?_
    refine CJ.seq (CJ.cut (X := Value × Unit) (fun x h nx => H66_j5 k  x.1 h nx) (fun x => [(8, some x.1)]) ?_ ?_)
    · refine CJ.seq ?_
      refine CJ.region ?_
      refine OJ.mv rfl rfl rfl (r_move rfl rfl) ?_
      refine OJ.rd rfl rfl rfl (r_bin rfl rfl rfl H) ?_
      intro v30_7 H
      refine OJ.mv rfl rfl rfl (r_assign rfl rfl) ?_
      refine OJ.fin ?_
      refine CJ.block ?_
      refine CJ.weaken [(1, (some a1_2)), (8, (some v28_4)), (9, (some v30_7))] (And.intro rfl (And.intro rfl (And.intro rfl True.intro))) ?_
      refine CJ.loop_ind (X := Value × Value × Value × Unit) (fun n x h nx => H66_l8 k  n x.1 x.2.1 x.2.2.1 h nx) (fun x => [(1, some x.1), (8, some x.2.1), (9, some x.2.2.1)]) (fun _ _ _ => rfl) ?_ 200000 (a1_2, v28_4, v30_7, ()) _ _ H
      intro ih8n ih8p ⟨a1_9, a8_9, a9_9, _u⟩ h nx H
      let ih8 := H66_l8 k  ih8n
      refine CJ.seq (CJ.cut (X := Value × Value × Value × Unit) (fun x h nx => H66_j10 k ih8 x.1 x.2.1 x.2.2.1 h nx) (fun x => [(1, some x.1), (8, some x.2.1), (9, some x.2.2.1)]) ?_ ?_)
      · refine CJ.seq ?_
        refine CJ.region ?_
        refine OJ.mv rfl rfl rfl (r_move rfl rfl) ?_
        refine OJ.rd rfl rfl rfl (r_bin rfl rfl rfl H) ?_
        intro v32_20 H
        refine OJ.fin ?_
        refine CJ.ite rfl H (fun H => ?_) (fun H => ?_)
        · exact CJ.skip [(1, (some a1_9)), (8, (some a8_9)), (9, (some a9_9))] (And.intro rfl (And.intro rfl (And.intro rfl True.intro))) (Exists.intro (a1_9, a8_9, a9_9, ()) (And.intro rfl H))
        · exact CJ.exit [(8, (some a8_9))] (And.intro rfl True.intro) (Exists.intro (a8_9, ()) (And.intro rfl H))
      · intro ⟨a1_11, a8_11, a9_11, _u⟩ h nx H
        refine CJ.seq (CJ.cut (X := Value × Value × Value × Unit) (fun x h nx => H66_j12 k ih8 x.1 x.2.1 x.2.2.1 h nx) (fun x => [(1, some x.1), (8, some x.2.1), (9, some x.2.2.1)]) ?_ ?_)
        · refine CJ.block ?_
          refine CJ.region ?_
          refine OJ.mv rfl rfl rfl (r_move rfl rfl) ?_
          refine OJ.mv rfl rfl rfl (r_move rfl rfl) ?_
          refine OJ.mv rfl rfl rfl (r_move rfl rfl) ?_
          refine OJ.rd rfl rfl rfl (r_bin rfl rfl rfl H) ?_
          intro v38_15 H
          refine OJ.rd rfl rfl rfl (r_bin rfl rfl rfl H) ?_
          intro v39_16 H
          refine OJ.rd rfl rfl rfl (r_conv rfl rfl H) ?_
          intro v40_17 H
          refine OJ.fu rfl rfl rfl (r_buildSlice (vs := [(0, v40_17)]) rfl (And.intro rfl (And.intro rfl True.intro)) H) ?_
          intro v41_18 h18 nx18 H
          refine OJ.fu rfl rfl rfl (r_append1 rfl rfl (And.intro rfl (And.intro rfl True.intro)) rfl H) ?_
          intro v42_19 h19 nx19 H
          refine OJ.mv rfl rfl rfl (r_assign rfl rfl) ?_
          exact OJ.done [(1, (some a1_11)), (8, (some v42_19)), (9, (some a9_11))] (And.intro rfl (And.intro rfl (And.intro rfl True.intro))) (Exists.intro (a1_11, v42_19, a9_11, ()) (And.intro rfl H))
        · intro ⟨a1_13, a8_13, a9_13, _u⟩ h nx H
          refine CJ.region ?_
          refine OJ.mv rfl rfl rfl (r_move rfl rfl) ?_
          refine OJ.rd rfl rfl rfl (r_bin rfl rfl rfl H) ?_
          intro v34_14 H
          refine OJ.mv rfl rfl rfl (r_assign rfl rfl) ?_
          exact OJ.done [(1, (some a1_13)), (8, (some a8_13)), (9, (some v34_14))] (And.intro rfl (And.intro rfl (And.intro rfl True.intro))) (ih8p (a1_13, a8_13, v34_14, ()) _ _ H)
    · intro ⟨a8_6, _u⟩ h nx H
      refine CJ.seq ?_
      refine CJ.region ?_
      refine OJ.mv rfl rfl rfl (r_move rfl rfl) ?_
      refine OJ.mv rfl rfl rfl (r_assign rfl rfl) ?_
      refine OJ.mv rfl rfl rfl (r_assign rfl rfl) ?_
      refine OJ.fin ?_
      refine CJ.ret1 ?_
      exact ret_many (vs := [a8_6, (.int .i64 (.ofNat 0))]) [6, 7] (Or.inr rfl) rfl (And.intro rfl (And.intro rfl True.intro)) H

/-! 144 -/
noncomputable def H144_j2 (k : KV)  (a5_3 : Value) (h : Heap) (nx : Nat) : Bool :=
  hUn Tryz.prog .xor a5_3 fun v34_4 =>
  k v34_4 h nx
noncomputable def H144_j11 (k : KV) (ih6 : Value → Value → Value → Value → Heap → Nat → Bool) (a5_12 : Value) (a10_12 : Value) (a11_12 : Value) (a12_12 : Value) (h : Heap) (nx : Nat) : Bool :=
  binK Tryz.prog .add 3 (.tmp 12) (.const (.int .i64 (.ofNat 1))) a12_12 (.int .i64 (.ofNat 1)) fun v32_13 =>
  ih6 a5_12 a10_12 a11_12 v32_13 h nx
noncomputable def H144_j24 (k : KV) (ih6 : Value → Value → Value → Value → Heap → Nat → Bool) (ih19 : Value → Value → Value → Value → Value → Heap → Nat → Bool) (a5_25 : Value) (a10_25 : Value) (a11_25 : Value) (a12_25 : Value) (a21_25 : Value) (h : Heap) (nx : Nat) : Bool :=
  binK Tryz.prog .add 3 (.tmp 21) (.const (.int .i64 (.ofNat 1))) a21_25 (.int .i64 (.ofNat 1)) fun v31_26 =>
  ih19 a5_25 a10_25 a11_25 a12_25 v31_26 h nx
noncomputable def H144_j22 (k : KV) (ih6 : Value → Value → Value → Value → Heap → Nat → Bool) (ih19 : Value → Value → Value → Value → Value → Heap → Nat → Bool) (a5_23 : Value) (a10_23 : Value) (a11_23 : Value) (a12_23 : Value) (a21_23 : Value) (h : Heap) (nx : Nat) : Bool :=
  binK Tryz.prog .and 193 (.tmp 23) (.const (.int .u32 (.ofNat 2147483648))) a5_23 (.int .u32 (.ofNat 2147483648)) fun v24_27 =>
  binK Tryz.prog .neq 193 (.tmp 24) (.const (.int .u32 (.ofNat 0))) v24_27 (.int .u32 (.ofNat 0)) fun v25_28 =>
  hIf v25_28 (fun _ => binK Tryz.prog .shl 193 (.tmp 26) (.const (.int .u64 (.ofNat 1))) a5_23 (.int .u64 (.ofNat 1)) fun v27_29 =>
  binK Tryz.prog .xor 193 (.tmp 27) (.const (.int .u32 (.ofNat 79764919))) v27_29 (.int .u32 (.ofNat 79764919)) fun v28_30 =>
  H144_j24 k ih6 ih19 v28_30 a10_23 a11_23 a12_23 a21_23 h nx) (fun _ => binK Tryz.prog .shl 193 (.tmp 29) (.const (.int .u64 (.ofNat 1))) a5_23 (.int .u64 (.ofNat 1)) fun v30_31 =>
  H144_j24 k ih6 ih19 v30_31 a10_23 a11_23 a12_23 a21_23 h nx)
noncomputable def H144_l19 (k : KV) (ih6 : Value → Value → Value → Value → Heap → Nat → Bool) (n : Nat) : Value → Value → Value → Value → Value → Heap → Nat → Bool :=
  Nat.rec (motive := fun _ => Value → Value → Value → Value → Value → Heap → Nat → Bool) (fun _ _ _ _ _ _ _ => false) (fun _ ih19 a5_20 a10_20 a11_20 a12_20 a21_20 h nx => binK Tryz.prog .lss 3 (.tmp 21) (.const (.int .i64 (.ofNat 8))) a21_20 (.int .i64 (.ofNat 8)) fun v22_21 =>
  hIf v22_21 (fun _ => H144_j22 k ih6 ih19 a5_20 a10_20 a11_20 a12_20 a21_20 h nx) (fun _ => H144_j11 k ih6 a5_20 a10_20 a11_20 a12_20 h nx)) n
noncomputable def H144_j9 (k : KV) (ih6 : Value → Value → Value → Value → Heap → Nat → Bool) (a5_10 : Value) (a10_10 : Value) (a11_10 : Value) (a12_10 : Value) (h : Heap) (nx : Nat) : Bool :=
  hIndexAddr Tryz.prog 22 a10_10 a12_10 fun v14_14 =>
  loadK Tryz.prog 5 v14_14 h fun v15_15 =>
  hConv Tryz.prog 5 193 v15_15 h fun v18_16 =>
  binK Tryz.prog .shl 193 (.tmp 18) (.const (.int .u64 (.ofNat 24))) v18_16 (.int .u64 (.ofNat 24)) fun v19_17 =>
  binK Tryz.prog .xor 193 (.tmp 16) (.tmp 19) a5_10 v19_17 fun v20_18 =>
  H144_l19 k ih6 200000 v20_18 a10_10 a11_10 a12_10 (.int .i64 (.ofNat 0)) h nx
noncomputable def H144_l6 (k : KV)  (n : Nat) : Value → Value → Value → Value → Heap → Nat → Bool :=
  Nat.rec (motive := fun _ => Value → Value → Value → Value → Heap → Nat → Bool) (fun _ _ _ _ _ _ => false) (fun _ ih6 a5_7 a10_7 a11_7 a12_7 h nx => binK Tryz.prog .lss 3 (.tmp 12) (.tmp 11) a12_7 a11_7 fun v13_8 =>
  hIf v13_8 (fun _ => H144_j9 k ih6 a5_7 a10_7 a11_7 a12_7 h nx) (fun _ => H144_j2 k  a5_7 h nx)) n
noncomputable def H144 (a0 : Value) (a1 : Value) (h : Heap) (nx : Nat) (k : KV) : Bool :=
  hUn Tryz.prog .xor a0 fun v9_1 =>
  lenK Tryz.prog 22 a1 h fun v11_5 =>
  H144_l6 k  200000 v9_1 a1 v11_5 (.int .i64 (.ofNat 0)) h nx
theorem sim144 {a0 a1 : Value} {h : Heap} {nx : Nat} {k : KV} (H : H144 a0 a1 h nx k = true) : ∃ v h' nx', k v h' nx' = true ∧ CallSim Tryz.prog 144 [a0, a1] h nx v h' nx' := by
  refine fn_rule Tryz.func144 rfl rfl ?_
  refine CJ.seq ?_
  refine CJ.region ?_
  refine OJ.mv rfl rfl rfl (r_assign rfl rfl) ?_
  refine OJ.fin ?_
  refine CJ.seq ?_
  refine CJ.region ?_
  refine OJ.mv rfl rfl rfl (r_move rfl rfl) ?_
  refine OJ.rd rfl rfl rfl (r_un rfl rfl H) ?_
  intro v9_1 H
  refine OJ.mv rfl rfl rfl (r_assign rfl rfl) ?_
  refine OJ.fin ?_
  refine CJ.seq (CJ.cut (X := Value × Unit) (fun x h nx => H144_j2 k  x.1 h nx) (fun x => [(5, some x.1)]) ?_ ?_)
  · refine CJ.seq ?_
    refine CJ.region ?_
    refine OJ.mv rfl rfl rfl (r_move rfl rfl) ?_
    refine OJ.rd rfl rfl rfl (r_len (x := default) rfl rfl (And.intro rfl True.intro) rfl H) ?_
    intro v11_5 H
    refine OJ.mv rfl rfl rfl (r_move rfl rfl) ?_
    refine OJ.fin ?_
    refine CJ.block ?_
    refine CJ.weaken [(5, (some v9_1)), (10, (some a1)), (11, (some v11_5)), (12, (some (.int .i64 (.ofNat 0))))] (And.intro rfl (And.intro rfl (And.intro rfl (And.intro rfl True.intro)))) ?_
    refine CJ.loop_ind (X := Value × Value × Value × Value × Unit) (fun n x h nx => H144_l6 k  n x.1 x.2.1 x.2.2.1 x.2.2.2.1 h nx) (fun x => [(5, some x.1), (10, some x.2.1), (11, some x.2.2.1), (12, some x.2.2.2.1)]) (fun _ _ _ => rfl) ?_ 200000 (v9_1, a1, v11_5, (.int .i64 (.ofNat 0)), ()) _ _ H
    intro ih6n ih6p ⟨a5_7, a10_7, a11_7, a12_7, _u⟩ h nx H
    let ih6 := H144_l6 k  ih6n
    refine CJ.seq ?_
    refine CJ.region ?_
    refine OJ.rd rfl rfl rfl (r_bin rfl rfl rfl H) ?_
    intro v13_8 H
    refine OJ.fin ?_
    refine CJ.seq (CJ.cut (X := Value × Value × Value × Value × Unit) (fun x h nx => H144_j9 k ih6 x.1 x.2.1 x.2.2.1 x.2.2.2.1 h nx) (fun x => [(5, some x.1), (10, some x.2.1), (11, some x.2.2.1), (12, some x.2.2.2.1)]) ?_ ?_)
    · refine CJ.ite rfl H (fun H => ?_) (fun H => ?_)
      · exact CJ.skip [(5, (some a5_7)), (10, (some a10_7)), (11, (some a11_7)), (12, (some a12_7))] (And.intro rfl (And.intro rfl (And.intro rfl (And.intro rfl True.intro)))) (Exists.intro (a5_7, a10_7, a11_7, a12_7, ()) (And.intro rfl H))
      · exact CJ.exit [(5, (some a5_7))] (And.intro rfl True.intro) (Exists.intro (a5_7, ()) (And.intro rfl H))
    · intro ⟨a5_10, a10_10, a11_10, a12_10, _u⟩ h nx H
      refine CJ.seq (CJ.cut (X := Value × Value × Value × Value × Unit) (fun x h nx => H144_j11 k ih6 x.1 x.2.1 x.2.2.1 x.2.2.2.1 h nx) (fun x => [(5, some x.1), (10, some x.2.1), (11, some x.2.2.1), (12, some x.2.2.2.1)]) ?_ ?_)
      · refine CJ.block ?_
        refine CJ.seq ?_
        refine CJ.region ?_
        refine OJ.rd rfl rfl rfl (r_indexAddr rfl rfl rfl H) ?_
        intro v14_14 H
        refine OJ.rd rfl rfl rfl (r_load rfl rfl H) ?_
        intro v15_15 H
        refine OJ.mv rfl rfl rfl (r_assign rfl rfl) ?_
        refine OJ.fin ?_
        refine CJ.seq ?_
        refine CJ.region ?_
        refine OJ.mv rfl rfl rfl (r_move rfl rfl) ?_
        refine OJ.mv rfl rfl rfl (r_move rfl rfl) ?_
        refine OJ.rd rfl rfl rfl (r_conv rfl rfl H) ?_
        intro v18_16 H
        refine OJ.rd rfl rfl rfl (r_bin rfl rfl rfl H) ?_
        intro v19_17 H
        refine OJ.rd rfl rfl rfl (r_bin rfl rfl rfl H) ?_
        intro v20_18 H
        refine OJ.mv rfl rfl rfl (r_assign rfl rfl) ?_
        refine OJ.fin ?_
        refine CJ.seq ?_
        refine CJ.region ?_
        refine OJ.mv rfl rfl rfl (r_move rfl rfl) ?_
        refine OJ.fin ?_
        refine CJ.block ?_
        refine CJ.weaken [(5, (some v20_18)), (10, (some a10_10)), (11, (some a11_10)), (12, (some a12_10)), (21, (some (.int .i64 (.ofNat 0))))] (And.intro rfl (And.intro rfl (And.intro rfl (And.intro rfl (And.intro rfl True.intro))))) ?_
        refine CJ.loop_ind (X := Value × Value × Value × Value × Value × Unit) (fun n x h nx => H144_l19 k ih6 n x.1 x.2.1 x.2.2.1 x.2.2.2.1 x.2.2.2.2.1 h nx) (fun x => [(5, some x.1), (10, some x.2.1), (11, some x.2.2.1), (12, some x.2.2.2.1), (21, some x.2.2.2.2.1)]) (fun _ _ _ => rfl) ?_ 200000 (v20_18, a10_10, a11_10, a12_10, (.int .i64 (.ofNat 0)), ()) _ _ H
        intro ih19n ih19p ⟨a5_20, a10_20, a11_20, a12_20, a21_20, _u⟩ h nx H
        let ih19 := H144_l19 k ih6 ih19n
        refine CJ.seq ?_
        refine CJ.region ?_
        refine OJ.rd rfl rfl rfl (r_bin rfl rfl rfl H) ?_
        intro v22_21 H
        refine OJ.fin ?_
        refine CJ.seq (CJ.cut (X := Value × Value × Value × Value × Value × Unit) (fun x h nx => H144_j22 k ih6 ih19 x.1 x.2.1 x.2.2.1 x.2.2.2.1 x.2.2.2.2.1 h nx) (fun x => [(5, some x.1), (10, some x.2.1), (11, some x.2.2.1), (12, some x.2.2.2.1), (21, some x.2.2.2.2.1)]) ?_ ?_)
        · refine CJ.ite rfl H (fun H => ?_) (fun H => ?_)
          · exact CJ.skip [(5, (some a5_20)), (10, (some a10_20)), (11, (some a11_20)), (12, (some a12_20)), (21, (some a21_20))] (And.intro rfl (And.intro rfl (And.intro rfl (And.intro rfl (And.intro rfl True.intro))))) (Exists.intro (a5_20, a10_20, a11_20, a12_20, a21_20, ()) (And.intro rfl H))
          · exact CJ.exit [(5, (some a5_20)), (10, (some a10_20)), (11, (some a11_20)), (12, (some a12_20))] (And.intro rfl (And.intro rfl (And.intro rfl (And.intro rfl True.intro)))) (Exists.intro (a5_20, a10_20, a11_20, a12_20, ()) (And.intro rfl H))
        · intro ⟨a5_23, a10_23, a11_23, a12_23, a21_23, _u⟩ h nx H
          refine CJ.seq (CJ.cut (X := Value × Value × Value × Value × Value × Unit) (fun x h nx => H144_j24 k ih6 ih19 x.1 x.2.1 x.2.2.1 x.2.2.2.1 x.2.2.2.2.1 h nx) (fun x => [(5, some x.1), (10, some x.2.1), (11, some x.2.2.1), (12, some x.2.2.2.1), (21, some x.2.2.2.2.1)]) ?_ ?_)
          · refine CJ.block ?_
            refine CJ.seq ?_
            refine CJ.region ?_
            refine OJ.mv rfl rfl rfl (r_move rfl rfl) ?_
            refine OJ.rd rfl rfl rfl (r_bin rfl rfl rfl H) ?_
            intro v24_27 H
            refine OJ.rd rfl rfl rfl (r_bin rfl rfl rfl H) ?_
            intro v25_28 H
            refine OJ.fin ?_
            refine CJ.ite rfl H (fun H => ?_) (fun H => ?_)
            · refine CJ.region ?_
              refine OJ.mv rfl rfl rfl (r_move rfl rfl) ?_
              refine OJ.rd rfl rfl rfl (r_bin rfl rfl rfl H) ?_
              intro v27_29 H
              refine OJ.rd rfl rfl rfl (r_bin rfl rfl rfl H) ?_
              intro v28_30 H
              refine OJ.mv rfl rfl rfl (r_assign rfl rfl) ?_
              exact OJ.done [(5, (some v28_30)), (10, (some a10_23)), (11, (some a11_23)), (12, (some a12_23)), (21, (some a21_23))] (And.intro rfl (And.intro rfl (And.intro rfl (And.intro rfl (And.intro rfl True.intro))))) (Exists.intro (v28_30, a10_23, a11_23, a12_23, a21_23, ()) (And.intro rfl H))
            · refine CJ.region ?_
              refine OJ.mv rfl rfl rfl (r_move rfl rfl) ?_
              refine OJ.rd rfl rfl rfl (r_bin rfl rfl rfl H) ?_
              intro v30_31 H
              refine OJ.mv rfl rfl rfl (r_assign rfl rfl) ?_
              exact OJ.done [(5, (some v30_31)), (10, (some a10_23)), (11, (some a11_23)), (12, (some a12_23)), (21, (some a21_23))] (And.intro rfl (And.intro rfl (And.intro rfl (And.intro rfl (And.intro rfl True.intro))))) (Exists.intro (v30_31, a10_23, a11_23, a12_23, a21_23, ()) (And.intro rfl H))
          · intro ⟨a5_25, a10_25, a11_25, a12_25, a21_25, _u⟩ h nx H
            refine CJ.region ?_
            refine OJ.rd rfl rfl rfl (r_bin rfl rfl rfl H) ?_
            intro v31_26 H
            refine OJ.mv rfl rfl rfl (r_move rfl rfl) ?_
            exact OJ.done [(5, (some a5_25)), (10, (some a10_25)), (11, (some a11_25)), (12, (some a12_25)), (21, (some v31_26))] (And.intro rfl (And.intro rfl (And.intro rfl (And.intro rfl (And.intro rfl True.intro))))) (ih19p (a5_25, a10_25, a11_25, a12_25, v31_26, ()) _ _ H)
      · intro ⟨a5_12, a10_12, a11_12, a12_12, _u⟩ h nx H
        refine CJ.region ?_
        refine OJ.rd rfl rfl rfl (r_bin rfl rfl rfl H) ?_
        intro v32_13 H
        refine OJ.mv rfl rfl rfl (r_move rfl rfl) ?_
        exact OJ.done [(5, (some a5_12)), (10, (some a10_12)), (11, (some a11_12)), (12, (some v32_13))] (And.intro rfl (And.intro rfl (And.intro rfl (And.intro rfl True.intro)))) (ih6p (a5_12, a10_12, a11_12, v32_13, ()) _ _ H)
  · intro ⟨a5_3, _u⟩ h nx H
    refine CJ.seq ?_
    refine CJ.region ?_
    refine OJ.mv rfl rfl rfl (r_move rfl rfl) ?_
    refine OJ.rd rfl rfl rfl (r_un rfl rfl H) ?_
    intro v34_4 H
    refine OJ.mv rfl rfl rfl (r_assign rfl rfl) ?_
    refine OJ.fin ?_
    refine CJ.ret1 ?_
    exact ret_one (Or.inr rfl) rfl rfl H

/-! 107 -/
noncomputable def H107 (a0 : Value) (h : Heap) (nx : Nat) (k : KV) : Bool :=
  H144 (.int .u32 (.ofNat 0)) a0 h nx fun v4_1 h1 nx1 =>
  k v4_1 h1 nx1
theorem sim107 {a0 : Value} {h : Heap} {nx : Nat} {k : KV} (H : H107 a0 h nx k = true) : ∃ v h' nx', k v h' nx' = true ∧ CallSim Tryz.prog 107 [a0] h nx v h' nx' := by
  refine fn_rule Tryz.func107 rfl rfl ?_
  refine CJ.seq ?_
  refine CJ.region ?_
  refine OJ.mv rfl rfl rfl (r_assign rfl rfl) ?_
  refine OJ.fin ?_
  refine CJ.seq ?_
  refine CJ.region ?_
  refine OJ.mv rfl rfl rfl (r_move rfl rfl) ?_
  refine OJ.fu rfl rfl rfl (r_call (args := [(.int .u32 (.ofNat 0)), a0]) rfl rfl rfl (And.intro rfl (And.intro rfl True.intro)) Tryz.call144 (sim144 H)) ?_
  intro v4_1 h1 nx1 H
  refine OJ.mv rfl rfl rfl (r_assign rfl rfl) ?_
  refine OJ.fin ?_
  refine CJ.ret1 ?_
  exact ret_one (Or.inr rfl) rfl rfl H

/-! 67 -/
noncomputable def H67 (a0 : Value) (h : Heap) (nx : Nat) (k : KV) : Bool :=
  H107 a0 h nx fun v6_1 h1 nx1 =>
  hBuildSlice Tryz.prog 22 0 [] h1 nx1 fun v7_2 h2 nx2 =>
  hAppend Tryz.prog 22 22 v7_2 a0 h2 nx2 fun v9_3 h3 nx3 =>
  binK Tryz.prog .shr 193 (.tmp 11) (.const (.int .u64 (.ofNat 24))) v6_1 (.int .u64 (.ofNat 24)) fun v12_4 =>
  hConv Tryz.prog 193 5 v12_4 h3 fun v13_5 =>
  binK Tryz.prog .shr 193 (.tmp 14) (.const (.int .u64 (.ofNat 16))) v6_1 (.int .u64 (.ofNat 16)) fun v15_6 =>
  hConv Tryz.prog 193 5 v15_6 h3 fun v16_7 =>
  binK Tryz.prog .shr 193 (.tmp 17) (.const (.int .u64 (.ofNat 8))) v6_1 (.int .u64 (.ofNat 8)) fun v18_8 =>
  hConv Tryz.prog 193 5 v18_8 h3 fun v19_9 =>
  hConv Tryz.prog 193 5 v6_1 h3 fun v21_10 =>
  hBuildSlice Tryz.prog 22 4 [(0, v13_5), (1, v16_7), (2, v19_9), (3, v21_10)] h3 nx3 fun v22_11 h11 nx11 =>
  hAppend Tryz.prog 22 22 v9_3 v22_11 h11 nx11 fun v23_12 h12 nx12 =>
  k v23_12 h12 nx12
theorem sim67 {a0 : Value} {h : Heap} {nx : Nat} {k : KV} (H : H67 a0 h nx k = true) : ∃ v h' nx', k v h' nx' = true ∧ CallSim Tryz.prog 67 [a0] h nx v h' nx' := by
  refine fn_rule Tryz.func67 rfl rfl ?_
  refine CJ.seq ?_
  refine CJ.region ?_
  refine OJ.mv rfl rfl rfl (r_assign rfl rfl) ?_
  refine OJ.fin ?_
  refine CJ.seq ?_
  refine CJ.region ?_
  refine OJ.mv rfl rfl rfl (r_move rfl rfl) ?_
  refine OJ.fu rfl rfl rfl (r_call (args := [a0]) rfl rfl rfl (And.intro rfl True.intro) Tryz.call107 (sim107 H)) ?_
  intro v6_1 h1 nx1 H
  refine OJ.mv rfl rfl rfl (r_assign rfl rfl) ?_
  refine OJ.fin ?_
  refine CJ.seq ?_
  refine CJ.region ?_
  refine OJ.fu rfl rfl rfl (r_buildSlice (vs := []) rfl True.intro H) ?_
  intro v7_2 h2 nx2 H
  refine OJ.mv rfl rfl rfl (r_move rfl rfl) ?_
  refine OJ.fu rfl rfl rfl (r_append1 rfl rfl (And.intro rfl (And.intro rfl True.intro)) rfl H) ?_
  intro v9_3 h3 nx3 H
  refine OJ.mv rfl rfl rfl (r_assign rfl rfl) ?_
  refine OJ.fin ?_
  refine CJ.seq ?_
  refine CJ.region ?_
  refine OJ.mv rfl rfl rfl (r_move rfl rfl) ?_
  refine OJ.mv rfl rfl rfl (r_move rfl rfl) ?_
  refine OJ.rd rfl rfl rfl (r_bin rfl rfl rfl H) ?_
  intro v12_4 H
  refine OJ.rd rfl rfl rfl (r_conv rfl rfl H) ?_
  intro v13_5 H
  refine OJ.mv rfl rfl rfl (r_move rfl rfl) ?_
  refine OJ.rd rfl rfl rfl (r_bin rfl rfl rfl H) ?_
  intro v15_6 H
  refine OJ.rd rfl rfl rfl (r_conv rfl rfl H) ?_
  intro v16_7 H
  refine OJ.mv rfl rfl rfl (r_move rfl rfl) ?_
  refine OJ.rd rfl rfl rfl (r_bin rfl rfl rfl H) ?_
  intro v18_8 H
  refine OJ.rd rfl rfl rfl (r_conv rfl rfl H) ?_
  intro v19_9 H
  refine OJ.mv rfl rfl rfl (r_move rfl rfl) ?_
  refine OJ.rd rfl rfl rfl (r_conv rfl rfl H) ?_
  intro v21_10 H
  refine OJ.fu rfl rfl rfl (r_buildSlice (vs := [(0, v13_5), (1, v16_7), (2, v19_9), (3, v21_10)]) rfl (And.intro rfl (And.intro rfl (And.intro rfl (And.intro rfl (And.intro rfl (And.intro rfl (And.intro rfl (And.intro rfl True.intro)))))))) H) ?_
  intro v22_11 h11 nx11 H
  refine OJ.fu rfl rfl rfl (r_append1 rfl rfl (And.intro rfl (And.intro rfl True.intro)) rfl H) ?_
  intro v23_12 h12 nx12 H
  refine OJ.mv rfl rfl rfl (r_assign rfl rfl) ?_
  refine OJ.fin ?_
  refine CJ.ret1 ?_
  exact ret_one (Or.inr rfl) rfl rfl H

/-! 40 -/
noncomputable def H40_j15 (k : KV)  (a1_16 : Value) (a5_16 : Value) (h : Heap) (nx : Nat) : Bool :=
  hFieldAddr Tryz.prog 24 a1_16 4 fun v48_17 =>
  loadK Tryz.prog 22 v48_17 h fun v49_18 =>
  hAppend Tryz.prog 22 22 a5_16 v49_18 h nx fun v50_19 h19 nx19 =>
  H67 v50_19 h19 nx19 fun v51_20 h20 nx20 =>
  hRet [v51_20, (.int .i64 (.ofNat 0))] h20 nx20 k
noncomputable def H40_j34 (k : KV) (ih29 : Value → Value → Value → Value → Value → Heap → Nat → Bool) (a1_35 : Value) (a5_35 : Value) (a34_35 : Value) (a35_35 : Value) (a36_35 : Value) (h : Heap) (nx : Nat) : Bool :=
  binK Tryz.prog .add 3 (.tmp 36) (.const (.int .i64 (.ofNat 1))) a36_35 (.int .i64 (.ofNat 1)) fun v46_36 =>
  ih29 a1_35 a5_35 a34_35 a35_35 v46_36 h nx
noncomputable def H40_j32 (k : KV) (ih29 : Value → Value → Value → Value → Value → Heap → Nat → Bool) (a1_33 : Value) (a5_33 : Value) (a34_33 : Value) (a35_33 : Value) (a36_33 : Value) (h : Heap) (nx : Nat) : Bool :=
  hIndexAddr Tryz.prog 31 a34_33 a36_33 fun v38_37 =>
  loadK Tryz.prog 3 v38_37 h fun v39_38 =>
  H66 a5_33 v39_38 (.int .i64 (.ofNat 4)) h nx fun v43_39 h39 nx39 =>
  hExtract v43_39 0 fun v44_40 =>
  hExtract v43_39 1 fun v45_41 =>
  H40_j34 k ih29 a1_33 v44_40 a34_33 a35_33 a36_33 h39 nx39
noncomputable def H40_l29 (k : KV)  (n : Nat) : Value → Value → Value → Value → Value → Heap → Nat → Bool :=
  Nat.rec (motive := fun _ => Value → Value → Value → Value → Value → Heap → Nat → Bool) (fun _ _ _ _ _ _ _ => false) (fun _ ih29 a1_30 a5_30 a34_30 a35_30 a36_30 h nx => binK Tryz.prog .lss 3 (.tmp 36) (.tmp 35) a36_30 a35_30 fun v37_31 =>
  hIf v37_31 (fun _ => H40_j32 k ih29 a1_30 a5_30 a34_30 a35_30 a36_30 h nx) (fun _ => H40_j15 k  a1_30 a5_30 h nx)) n
noncomputable def H40_j2 (k : KV)  (a1_3 : Value) (h : Heap) (nx : Nat) : Bool :=
  hFieldAddr Tryz.prog 24 a1_3 4 fun v15_4 =>
  loadK Tryz.prog 22 v15_4 h fun v16_5 =>
  lenK Tryz.prog 22 v16_5 h fun v17_6 =>
  H66 (.slice none 0 0) v17_6 (.int .i64 (.ofNat 2)) h nx fun v18_7 h7 nx7 =>
  hExtract v18_7 0 fun v19_8 =>
  hExtract v18_7 1 fun v20_9 =>
  hFieldAddr Tryz.prog 24 a1_3 0 fun v23_10 =>
  loadK Tryz.prog 3 v23_10 h7 fun v24_11 =>
  H66 v19_8 v24_11 (.int .i64 (.ofNat 1)) h7 nx7 fun v25_12 h12 nx12 =>
  hExtract v25_12 0 fun v26_13 =>
  hExtract v25_12 1 fun v27_14 =>
  hFieldAddr Tryz.prog 24 a1_3 1 fun v28_21 =>
  loadK Tryz.prog 3 v28_21 h12 fun v29_22 =>
  hFieldAddr Tryz.prog 24 a1_3 2 fun v30_23 =>
  loadK Tryz.prog 3 v30_23 h12 fun v31_24 =>
  hFieldAddr Tryz.prog 24 a1_3 3 fun v32_25 =>
  loadK Tryz.prog 3 v32_25 h12 fun v33_26 =>
  hBuildSlice Tryz.prog 31 3 [(0, v29_22), (1, v31_24), (2, v33_26)] h12 nx12 fun v34_27 h27 nx27 =>
  lenK Tryz.prog 31 v34_27 h27 fun v35_28 =>
  H40_l29 k  200000 a1_3 v26_13 v34_27 v35_28 (.int .i64 (.ofNat 0)) h27 nx27
noncomputable def H40 (a0 : Value) (h : Heap) (nx : Nat) (k : KV) : Bool :=
  hBox a0 h nx fun v1_1 h1 nx1 =>
  loadK Tryz.prog 24 v1_1 h1 fun v9_42 =>
  H65 v9_42 h1 nx1 fun v10_43 h43 nx43 =>
  binK Tryz.prog .neq 44 (.tmp 11) (.const (.int .i64 (.ofNat 0))) v10_43 (.int .i64 (.ofNat 0)) fun v12_44 =>
  hIf v12_44 (fun _ => false) (fun _ => H40_j2 k  v1_1 h43 nx43)
theorem sim40 {a0 : Value} {h : Heap} {nx : Nat} {k : KV} (H : H40 a0 h nx k = true) : ∃ v h' nx', k v h' nx' = true ∧ CallSim Tryz.prog 40 [a0] h nx v h' nx' := by
  refine fn_rule Tryz.func40 rfl rfl ?_
  refine CJ.seq ?_
  refine CJ.region ?_
  refine OJ.fu rfl rfl rfl (r_box rfl rfl H) ?_
  intro v1_1 h1 nx1 H
  refine OJ.mv rfl rfl rfl (r_assign rfl rfl) ?_
  refine OJ.mv rfl rfl rfl (r_assign rfl rfl) ?_
  refine OJ.fin ?_
  refine CJ.seq (CJ.cut (X := Value × Unit) (fun x h nx => H40_j2 k  x.1 h nx) (fun x => [(1, some x.1)]) ?_ ?_)
  · refine CJ.seq ?_
    refine CJ.region ?_
    refine OJ.rd rfl rfl rfl (r_load rfl rfl H) ?_
    intro v9_42 H
    refine OJ.fu rfl rfl rfl (r_call (args := [v9_42]) rfl rfl rfl (And.intro rfl True.intro) Tryz.call65 (sim65 H)) ?_
    intro v10_43 h43 nx43 H
    refine OJ.mv rfl rfl rfl (r_assign rfl rfl) ?_
    refine OJ.fin ?_
    refine CJ.seq ?_
    refine CJ.region ?_
    refine OJ.mv rfl rfl rfl (r_move rfl rfl) ?_
    refine OJ.rd rfl rfl rfl (r_bin rfl rfl rfl H) ?_
    intro v12_44 H
    refine OJ.fin ?_
    refine CJ.ite rfl H (fun H => ?_) (fun H => ?_)
    · cases H
    · exact CJ.skip [(1, (some v1_1))] (And.intro rfl True.intro) (Exists.intro (v1_1, ()) (And.intro rfl H))
  · intro ⟨a1_3, _u⟩ h nx H
    refine CJ.seq ?_
    refine CJ.region ?_
    refine OJ.rd rfl rfl rfl (r_fieldAddr rfl rfl H) ?_
    intro v15_4 H
    refine OJ.rd rfl rfl rfl (r_load rfl rfl H) ?_
    intro v16_5 H
    refine OJ.rd rfl rfl rfl (r_len (x := default) rfl rfl (And.intro rfl True.intro) rfl H) ?_
    intro v17_6 H
    refine OJ.fu rfl rfl rfl (r_call (args := [(.slice none 0 0), v17_6, (.int .i64 (.ofNat 2))]) rfl rfl rfl (And.intro rfl (And.intro rfl (And.intro rfl True.intro))) Tryz.call66 (sim66 H)) ?_
    intro v18_7 h7 nx7 H
    refine OJ.mv rfl rfl rfl (r_move rfl rfl) ?_
    refine OJ.rd rfl rfl rfl (r_extract rfl rfl H) ?_
    intro v19_8 H
    refine OJ.rd rfl rfl rfl (r_extract rfl rfl H) ?_
    intro v20_9 H
    refine OJ.mv rfl rfl rfl (r_assign rfl rfl) ?_
    refine OJ.mv rfl rfl rfl (r_assign rfl rfl) ?_
    refine OJ.fin ?_
    refine CJ.seq ?_
    refine CJ.region ?_
    refine OJ.mv rfl rfl rfl (r_move rfl rfl) ?_
    refine OJ.rd rfl rfl rfl (r_fieldAddr rfl rfl H) ?_
    intro v23_10 H
    refine OJ.rd rfl rfl rfl (r_load rfl rfl H) ?_
    intro v24_11 H
    refine OJ.fu rfl rfl rfl (r_call (args := [v19_8, v24_11, (.int .i64 (.ofNat 1))]) rfl rfl rfl (And.intro rfl (And.intro rfl (And.intro rfl True.intro))) Tryz.call66 (sim66 H)) ?_
    intro v25_12 h12 nx12 H
    refine OJ.mv rfl rfl rfl (r_move rfl rfl) ?_
    refine OJ.rd rfl rfl rfl (r_extract rfl rfl H) ?_
    intro v26_13 H
    refine OJ.rd rfl rfl rfl (r_extract rfl rfl H) ?_
    intro v27_14 H
    refine OJ.mv rfl rfl rfl (r_assign rfl rfl) ?_
    refine OJ.fin ?_
    refine CJ.seq (CJ.cut (X := Value × Value × Unit) (fun x h nx => H40_j15 k  x.1 x.2.1 h nx) (fun x => [(1, some x.1), (5, some x.2.1)]) ?_ ?_)
    · refine CJ.seq ?_
      refine CJ.region ?_
      refine OJ.rd rfl rfl rfl (r_fieldAddr rfl rfl H) ?_
      intro v28_21 H
      refine OJ.rd rfl rfl rfl (r_load rfl rfl H) ?_
      intro v29_22 H
      refine OJ.rd rfl rfl rfl (r_fieldAddr rfl rfl H) ?_
      intro v30_23 H
      refine OJ.rd rfl rfl rfl (r_load rfl rfl H) ?_
      intro v31_24 H
      refine OJ.rd rfl rfl rfl (r_fieldAddr rfl rfl H) ?_
      intro v32_25 H
      refine OJ.rd rfl rfl rfl (r_load rfl rfl H) ?_
      intro v33_26 H
      refine OJ.fu rfl rfl rfl (r_buildSlice (vs := [(0, v29_22), (1, v31_24), (2, v33_26)]) rfl (And.intro rfl (And.intro rfl (And.intro rfl (And.intro rfl (And.intro rfl (And.intro rfl True.intro)))))) H) ?_
      intro v34_27 h27 nx27 H
      refine OJ.rd rfl rfl rfl (r_len (x := default) rfl rfl (And.intro rfl True.intro) rfl H) ?_
      intro v35_28 H
      refine OJ.mv rfl rfl rfl (r_move rfl rfl) ?_
      refine OJ.fin ?_
      refine CJ.block ?_
      refine CJ.weaken [(1, (some a1_3)), (5, (some v26_13)), (34, (some v34_27)), (35, (some v35_28)), (36, (some (.int .i64 (.ofNat 0))))] (And.intro rfl (And.intro rfl (And.intro rfl (And.intro rfl (And.intro rfl True.intro))))) ?_
      refine CJ.loop_ind (X := Value × Value × Value × Value × Value × Unit) (fun n x h nx => H40_l29 k  n x.1 x.2.1 x.2.2.1 x.2.2.2.1 x.2.2.2.2.1 h nx) (fun x => [(1, some x.1), (5, some x.2.1), (34, some x.2.2.1), (35, some x.2.2.2.1), (36, some x.2.2.2.2.1)]) (fun _ _ _ => rfl) ?_ 200000 (a1_3, v26_13, v34_27, v35_28, (.int .i64 (.ofNat 0)), ()) _ _ H
      intro ih29n ih29p ⟨a1_30, a5_30, a34_30, a35_30, a36_30, _u⟩ h nx H
      let ih29 := H40_l29 k  ih29n
      refine CJ.seq ?_
      refine CJ.region ?_
      refine OJ.rd rfl rfl rfl (r_bin rfl rfl rfl H) ?_
      intro v37_31 H
      refine OJ.fin ?_
      refine CJ.seq (CJ.cut (X := Value × Value × Value × Value × Value × Unit) (fun x h nx => H40_j32 k ih29 x.1 x.2.1 x.2.2.1 x.2.2.2.1 x.2.2.2.2.1 h nx) (fun x => [(1, some x.1), (5, some x.2.1), (34, some x.2.2.1), (35, some x.2.2.2.1), (36, some x.2.2.2.2.1)]) ?_ ?_)
      · refine CJ.ite rfl H (fun H => ?_) (fun H => ?_)
        · exact CJ.skip [(1, (some a1_30)), (5, (some a5_30)), (34, (some a34_30)), (35, (some a35_30)), (36, (some a36_30))] (And.intro rfl (And.intro rfl (And.intro rfl (And.intro rfl (And.intro rfl True.intro))))) (Exists.intro (a1_30, a5_30, a34_30, a35_30, a36_30, ()) (And.intro rfl H))
        · exact CJ.exit [(1, (some a1_30)), (5, (some a5_30))] (And.intro rfl (And.intro rfl True.intro)) (Exists.intro (a1_30, a5_30, ()) (And.intro rfl H))
      · intro ⟨a1_33, a5_33, a34_33, a35_33, a36_33, _u⟩ h nx H
        refine CJ.seq (CJ.cut (X := Value × Value × Value × Value × Value × Unit) (fun x h nx => H40_j34 k ih29 x.1 x.2.1 x.2.2.1 x.2.2.2.1 x.2.2.2.2.1 h nx) (fun x => [(1, some x.1), (5, some x.2.1), (34, some x.2.2.1), (35, some x.2.2.2.1), (36, some x.2.2.2.2.1)]) ?_ ?_)
        · refine CJ.block ?_
          refine CJ.seq ?_
          refine CJ.region ?_
          refine OJ.rd rfl rfl rfl (r_indexAddr rfl rfl rfl H) ?_
          intro v38_37 H
          refine OJ.rd rfl rfl rfl (r_load rfl rfl H) ?_
          intro v39_38 H
          refine OJ.mv rfl rfl rfl (r_assign rfl rfl) ?_
          refine OJ.fin ?_
          refine CJ.region ?_
          refine OJ.mv rfl rfl rfl (r_move rfl rfl) ?_
          refine OJ.mv rfl rfl rfl (r_move rfl rfl) ?_
          refine OJ.fu rfl rfl rfl (r_call (args := [a5_33, v39_38, (.int .i64 (.ofNat 4))]) rfl rfl rfl (And.intro rfl (And.intro rfl (And.intro rfl True.intro))) Tryz.call66 (sim66 H)) ?_
          intro v43_39 h39 nx39 H
          refine OJ.mv rfl rfl rfl (r_move rfl rfl) ?_
          refine OJ.rd rfl rfl rfl (r_extract rfl rfl H) ?_
          intro v44_40 H
          refine OJ.rd rfl rfl rfl (r_extract rfl rfl H) ?_
          intro v45_41 H
          refine OJ.mv rfl rfl rfl (r_assign rfl rfl) ?_
          exact OJ.done [(1, (some a1_33)), (5, (some v44_40)), (34, (some a34_33)), (35, (some a35_33)), (36, (some a36_33))] (And.intro rfl (And.intro rfl (And.intro rfl (And.intro rfl (And.intro rfl True.intro))))) (Exists.intro (a1_33, v44_40, a34_33, a35_33, a36_33, ()) (And.intro rfl H))
        · intro ⟨a1_35, a5_35, a34_35, a35_35, a36_35, _u⟩ h nx H
          refine CJ.region ?_
          refine OJ.rd rfl rfl rfl (r_bin rfl rfl rfl H) ?_
          intro v46_36 H
          refine OJ.mv rfl rfl rfl (r_move rfl rfl) ?_
          exact OJ.done [(1, (some a1_35)), (5, (some a5_35)), (34, (some a34_35)), (35, (some a35_35)), (36, (some v46_36))] (And.intro rfl (And.intro rfl (And.intro rfl (And.intro rfl (And.intro rfl True.intro))))) (ih29p (a1_35, a5_35, a34_35, a35_35, v46_36, ()) _ _ H)
    · intro ⟨a1_16, a5_16, _u⟩ h nx H
      refine CJ.seq ?_
      refine CJ.region ?_
      refine OJ.mv rfl rfl rfl (r_move rfl rfl) ?_
      refine OJ.rd rfl rfl rfl (r_fieldAddr rfl rfl H) ?_
      intro v48_17 H
      refine OJ.rd rfl rfl rfl (r_load rfl rfl H) ?_
      intro v49_18 H
      refine OJ.fu rfl rfl rfl (r_append1 rfl rfl (And.intro rfl (And.intro rfl True.intro)) rfl H) ?_
      intro v50_19 h19 nx19 H
      refine OJ.fu rfl rfl rfl (r_call (args := [v50_19]) rfl rfl rfl (And.intro rfl True.intro) Tryz.call67 (sim67 H)) ?_
      intro v51_20 h20 nx20 H
      refine OJ.mv rfl rfl rfl (r_assign rfl rfl) ?_
      refine OJ.mv rfl rfl rfl (r_assign rfl rfl) ?_
      refine OJ.fin ?_
      refine CJ.ret1 ?_
      exact ret_many (vs := [v51_20, (.int .i64 (.ofNat 0))]) [2, 3] (Or.inr rfl) rfl (And.intro rfl (And.intro rfl True.intro)) H

/-! 17 -/
noncomputable def H17_j20 (k : KV) (ih17 : Value → Value → Heap → Nat → Bool)  (h : Heap) (nx : Nat) : Bool :=
  false
noncomputable def H17_l17 (k : KV)  (n : Nat) : Value → Value → Heap → Nat → Bool :=
  Nat.rec (motive := fun _ => Value → Value → Heap → Nat → Bool) (fun _ _ _ _ => false) (fun _ ih17 a92_18 a93_18 h nx => binK Tryz.prog .lss 3 (.tmp 93) (.tmp 92) a93_18 a92_18 fun v94_19 =>
  hIf v94_19 (fun _ => false) (fun _ => hRet [] h nx k)) n
noncomputable def H17_j12 (k : KV)  (a5_13 : Value) (h : Heap) (nx : Nat) : Bool :=
  hFieldAddr Tryz.prog 75 a5_13 1 fun v90_14 =>
  loadK Tryz.prog 49 v90_14 h fun v91_15 =>
  lenK Tryz.prog 49 v91_15 h fun v92_16 =>
  H17_l17 k  200000 v92_16 (.int .i64 (.ofNat 0)) h nx
noncomputable def H17_j10 (k : KV)  (a5_11 : Value) (h : Heap) (nx : Nat) : Bool :=
  hFieldAddr Tryz.prog 75 a5_11 3 fun v66_22 =>
  loadK Tryz.prog 3 v66_22 h fun v67_23 =>
  binK Tryz.prog .neq 3 (.tmp 67) (.const (.int .i64 (.ofNat 0))) v67_23 (.int .i64 (.ofNat 0)) fun v68_24 =>
  hIf v68_24 (fun _ => false) (fun _ => H17_j12 k  a5_11 h nx)
noncomputable def H17_j8 (k : KV)  (a5_9 : Value) (h : Heap) (nx : Nat) : Bool :=
  hFieldAddr Tryz.prog 75 a5_9 2 fun v53_25 =>
  loadK Tryz.prog 4 v53_25 h fun v54_26 =>
  hIf v54_26 (fun _ => false) (fun _ => H17_j10 k  a5_9 h nx)
noncomputable def H17_j35 (k : KV) (ih30 : Value → Value → Value → Value → Value → Value → Heap → Nat → Bool) (a0_36 : Value) (a5_36 : Value) (a6_36 : Value) (a24_36 : Value) (a25_36 : Value) (a26_36 : Value) (h : Heap) (nx : Nat) : Bool :=
  binK Tryz.prog .add 3 (.tmp 26) (.const (.int .i64 (.ofNat 1))) a26_36 (.int .i64 (.ofNat 1)) fun v52_37 =>
  ih30 a0_36 a5_36 a6_36 a24_36 a25_36 v52_37 h nx
noncomputable def H17_j33 (k : KV) (ih30 : Value → Value → Value → Value → Value → Value → Heap → Nat → Bool) (a0_34 : Value) (a5_34 : Value) (a6_34 : Value) (a24_34 : Value) (a25_34 : Value) (a26_34 : Value) (h : Heap) (nx : Nat) : Bool :=
  hIndexAddr Tryz.prog 73 a24_34 a26_34 fun v28_38 =>
  loadK Tryz.prog 24 v28_38 h fun v29_39 =>
  hAlloc Tryz.prog 24 h nx fun v8_40 h40 nx40 =>
  storeK Tryz.prog 24 v8_40 v29_39 h40 fun h41 =>
  loadK Tryz.prog 24 v8_40 h41 fun v31_42 =>
  H40 v31_42 h41 nx40 fun v32_43 h43 nx43 =>
  hExtract v32_43 0 fun v33_44 =>
  hExtract v32_43 1 fun v34_45 =>
  hNil a0_34 fun v37_47 =>
  hFieldAddr Tryz.prog 43 v37_47 5 fun v38_48 =>
  loadK Tryz.prog 41 v38_48 h43 fun v39_49 =>
  hNil a0_34 fun v41_50 =>
  hFieldAddr Tryz.prog 43 v41_50 0 fun v42_51 =>
  hFieldAddr Tryz.prog 36 v42_51 0 fun v43_52 =>
  loadK Tryz.prog 3 v43_52 h43 fun v44_53 =>
  hBuild Tryz.prog 96 [(0, v44_53), (1, a6_34), (2, v33_44)] fun v47_54 =>
  hBuildSlice Tryz.prog 41 1 [(0, v47_54)] h43 nx43 fun v48_55 h55 nx55 =>
  loadK Tryz.prog 41 v38_48 h55 fun v39_57 =>
  hEq v39_57 v39_49 fun _ => hAppend Tryz.prog 41 41 v39_49 v48_55 h55 nx55 fun v49_58 h58 nx58 =>
  hNil a0_34 fun v50_59 =>
  hFieldAddr Tryz.prog 43 v50_59 5 fun v51_60 =>
  storeK Tryz.prog 41 v51_60 v49_58 h58 fun h61 =>
  H17_j35 k ih30 a0_34 a5_34 a6_34 a24_34 a25_34 a26_34 h61 nx58
noncomputable def H17_l30 (k : KV)  (n : Nat) : Value → Value → Value → Value → Value → Value → Heap → Nat → Bool :=
  Nat.rec (motive := fun _ => Value → Value → Value → Value → Value → Value → Heap → Nat → Bool) (fun _ _ _ _ _ _ _ _ => false) (fun _ ih30 a0_31 a5_31 a6_31 a24_31 a25_31 a26_31 h nx => binK Tryz.prog .lss 3 (.tmp 26) (.tmp 25) a26_31 a25_31 fun v27_32 =>
  hIf v27_32 (fun _ => H17_j33 k ih30 a0_31 a5_31 a6_31 a24_31 a25_31 a26_31 h nx) (fun _ => H17_j8 k  a5_31 h nx)) n
noncomputable def H17 (a0 : Value) (a1 : Value) (a2 : Value) (h : Heap) (nx : Nat) (k : KV) : Bool :=
  hBox a2 h nx fun v5_1 h1 nx1 =>
  hNil a0 fun v16_2 =>
  hFieldAddr Tryz.prog 43 v16_2 1 fun v17_3 =>
  loadK Tryz.prog 37 v17_3 h1 fun v18_4 =>
  hIndexAddr Tryz.prog 37 v18_4 a1 fun v20_5 =>
  hFieldAddr Tryz.prog 59 v20_5 0 fun v21_6 =>
  loadK Tryz.prog 3 v21_6 h1 fun v22_7 =>
  hFieldAddr Tryz.prog 75 v5_1 0 fun v23_27 =>
  loadK Tryz.prog 73 v23_27 h1 fun v24_28 =>
  lenK Tryz.prog 73 v24_28 h1 fun v25_29 =>
  H17_l30 k  200000 a0 v5_1 v22_7 v24_28 v25_29 (.int .i64 (.ofNat 0)) h1 nx1
theorem sim17 {a0 a1 a2 : Value} {h : Heap} {nx : Nat} {k : KV} (H : H17 a0 a1 a2 h nx k = true) : ∃ v h' nx', k v h' nx' = true ∧ CallSim Tryz.prog 17 [a0, a1, a2] h nx v h' nx' := by
  refine fn_rule Tryz.func17 rfl rfl ?_
  refine CJ.seq ?_
  refine CJ.region ?_
  refine OJ.fu rfl rfl rfl (r_box rfl rfl H) ?_
  intro v5_1 h1 nx1 H
  refine OJ.fin ?_
  refine CJ.seq ?_
  refine CJ.region ?_
  refine OJ.mv rfl rfl rfl (r_move rfl rfl) ?_
  refine OJ.rd rfl rfl rfl (r_nil rfl rfl H) ?_
  intro v16_2 H
  refine OJ.rd rfl rfl rfl (r_fieldAddr rfl rfl H) ?_
  intro v17_3 H
  refine OJ.rd rfl rfl rfl (r_load rfl rfl H) ?_
  intro v18_4 H
  refine OJ.mv rfl rfl rfl (r_move rfl rfl) ?_
  refine OJ.rd rfl rfl rfl (r_indexAddr rfl rfl rfl H) ?_
  intro v20_5 H
  refine OJ.rd rfl rfl rfl (r_fieldAddr rfl rfl H) ?_
  intro v21_6 H
  refine OJ.rd rfl rfl rfl (r_load rfl rfl H) ?_
  intro v22_7 H
  refine OJ.mv rfl rfl rfl (r_assign rfl rfl) ?_
  refine OJ.fin ?_
  refine CJ.seq (CJ.cut (X := Value × Unit) (fun x h nx => H17_j8 k  x.1 h nx) (fun x => [(5, some x.1)]) ?_ ?_)
  · refine CJ.seq ?_
    refine CJ.region ?_
    refine OJ.rd rfl rfl rfl (r_fieldAddr rfl rfl H) ?_
    intro v23_27 H
    refine OJ.rd rfl rfl rfl (r_load rfl rfl H) ?_
    intro v24_28 H
    refine OJ.rd rfl rfl rfl (r_len (x := default) rfl rfl (And.intro rfl True.intro) rfl H) ?_
    intro v25_29 H
    refine OJ.mv rfl rfl rfl (r_move rfl rfl) ?_
    refine OJ.fin ?_
    refine CJ.block ?_
    refine CJ.weaken [(0, (some a0)), (5, (some v5_1)), (6, (some v22_7)), (24, (some v24_28)), (25, (some v25_29)), (26, (some (.int .i64 (.ofNat 0))))] (And.intro rfl (And.intro rfl (And.intro rfl (And.intro rfl (And.intro rfl (And.intro rfl True.intro)))))) ?_
    refine CJ.loop_ind (X := Value × Value × Value × Value × Value × Value × Unit) (fun n x h nx => H17_l30 k  n x.1 x.2.1 x.2.2.1 x.2.2.2.1 x.2.2.2.2.1 x.2.2.2.2.2.1 h nx) (fun x => [(0, some x.1), (5, some x.2.1), (6, some x.2.2.1), (24, some x.2.2.2.1), (25, some x.2.2.2.2.1), (26, some x.2.2.2.2.2.1)]) (fun _ _ _ => rfl) ?_ 200000 (a0, v5_1, v22_7, v24_28, v25_29, (.int .i64 (.ofNat 0)), ()) _ _ H
    intro ih30n ih30p ⟨a0_31, a5_31, a6_31, a24_31, a25_31, a26_31, _u⟩ h nx H
    let ih30 := H17_l30 k  ih30n
    refine CJ.seq ?_
    refine CJ.region ?_
    refine OJ.rd rfl rfl rfl (r_bin rfl rfl rfl H) ?_
    intro v27_32 H
    refine OJ.fin ?_
    refine CJ.seq (CJ.cut (X := Value × Value × Value × Value × Value × Value × Unit) (fun x h nx => H17_j33 k ih30 x.1 x.2.1 x.2.2.1 x.2.2.2.1 x.2.2.2.2.1 x.2.2.2.2.2.1 h nx) (fun x => [(0, some x.1), (5, some x.2.1), (6, some x.2.2.1), (24, some x.2.2.2.1), (25, some x.2.2.2.2.1), (26, some x.2.2.2.2.2.1)]) ?_ ?_)
    · refine CJ.ite rfl H (fun H => ?_) (fun H => ?_)
      · exact CJ.skip [(0, (some a0_31)), (5, (some a5_31)), (6, (some a6_31)), (24, (some a24_31)), (25, (some a25_31)), (26, (some a26_31))] (And.intro rfl (And.intro rfl (And.intro rfl (And.intro rfl (And.intro rfl (And.intro rfl True.intro)))))) (Exists.intro (a0_31, a5_31, a6_31, a24_31, a25_31, a26_31, ()) (And.intro rfl H))
      · exact CJ.exit [(5, (some a5_31))] (And.intro rfl True.intro) (Exists.intro (a5_31, ()) (And.intro rfl H))
    · intro ⟨a0_34, a5_34, a6_34, a24_34, a25_34, a26_34, _u⟩ h nx H
      refine CJ.seq (CJ.cut (X := Value × Value × Value × Value × Value × Value × Unit) (fun x h nx => H17_j35 k ih30 x.1 x.2.1 x.2.2.1 x.2.2.2.1 x.2.2.2.2.1 x.2.2.2.2.2.1 h nx) (fun x => [(0, some x.1), (5, some x.2.1), (6, some x.2.2.1), (24, some x.2.2.2.1), (25, some x.2.2.2.2.1), (26, some x.2.2.2.2.2.1)]) ?_ ?_)
      · refine CJ.block ?_
        refine CJ.seq ?_
        refine CJ.region ?_
        refine OJ.rd rfl rfl rfl (r_indexAddr rfl rfl rfl H) ?_
        intro v28_38 H
        refine OJ.rd rfl rfl rfl (r_load rfl rfl H) ?_
        intro v29_39 H
        refine OJ.fu rfl rfl rfl (r_alloc1 rfl H) ?_
        intro v8_40 h40 nx40 H
        refine OJ.wr rfl rfl (r_store rfl rfl rfl H) ?_
        intro h41 H
        refine OJ.fin ?_
        refine CJ.seq ?_
        refine CJ.region ?_
        refine OJ.rd rfl rfl rfl (r_load rfl rfl H) ?_
        intro v31_42 H
        refine OJ.fu rfl rfl rfl (r_call (args := [v31_42]) rfl rfl rfl (And.intro rfl True.intro) Tryz.call40 (sim40 H)) ?_
        intro v32_43 h43 nx43 H
        refine OJ.mv rfl rfl rfl (r_move rfl rfl) ?_
        refine OJ.rd rfl rfl rfl (r_extract rfl rfl H) ?_
        intro v33_44 H
        refine OJ.rd rfl rfl rfl (r_extract rfl rfl H) ?_
        intro v34_45 H
        refine OJ.mv rfl rfl rfl (r_assign rfl rfl) ?_
        refine OJ.mv rfl rfl rfl (r_assign rfl rfl) ?_
        refine OJ.fin ?_
        refine DJ.hm [0, 0, 2, 6, 14, 0, 32, 96, 224, 480, 0, 0, 4064, 8160, 16382, 32767, 65535, 131071] (by decide +kernel) ?_
        intro hm46
        refine DJ.mv 0 [(0, (some a0_34))] (a_move rfl rfl) ?_
        intro S46_0
        refine DJ.mv 1 [(0, (some a0_34))] (a_move rfl rfl) ?_
        intro S46_1
        refine DJ.any 2 [(36, (some a0_34))] (a_nil rfl rfl H) ?_
        intro v37_47 H S46_2
        refine DJ.any 3 [(37, (some v37_47))] (a_fieldAddr rfl rfl H) ?_
        intro v38_48 H S46_3
        refine DJ.rd 4 [(38, (some v38_48))] h43 nx43 (r_load rfl rfl H) ?_
        intro v39_49 H S46_4
        refine DJ.mv 5 [(0, (some a0_34))] (a_move rfl rfl) ?_
        intro S46_5
        refine DJ.any 6 [(40, (some a0_34))] (a_nil rfl rfl H) ?_
        intro v41_50 H S46_6
        refine DJ.any 7 [(41, (some v41_50))] (a_fieldAddr rfl rfl H) ?_
        intro v42_51 H S46_7
        refine DJ.any 8 [(42, (some v42_51))] (a_fieldAddr rfl rfl H) ?_
        intro v43_52 H S46_8
        refine DJ.rd 9 [(43, (some v43_52))] h43 nx43 (r_load rfl rfl H) ?_
        intro v44_53 H S46_9
        refine DJ.mv 10 [(6, (some a6_34))] (a_move rfl rfl) ?_
        intro S46_10
        refine DJ.mv 11 [(9, (some v33_44))] (a_move rfl rfl) ?_
        intro S46_11
        refine DJ.any 12 [(44, (some v44_53)), (45, (some a6_34)), (46, (some v33_44))] (a_build (vs := [(0, v44_53), (1, a6_34), (2, v33_44)]) rfl (And.intro rfl (And.intro rfl (And.intro rfl (And.intro rfl (And.intro rfl (And.intro rfl True.intro)))))) H) ?_
        intro v47_54 H S46_12
        refine DJ.fu 13 [(47, (some v47_54))] h43 nx43 (r_buildSlice (vs := [(0, v47_54)]) rfl (And.intro rfl (And.intro rfl True.intro)) H) ?_
        intro v48_55 h55 nx55 H S46_13
        have I46_13 := S46_13.1
        refine DJ.rd 4 [(38, (some v38_48))] h55 nx55 (r_load rfl rfl H) ?_
        intro v39_57 H Q56
        obtain ⟨q56, H⟩ := hEq_true H
        refine DJ.fu 14 [(39, (some v39_49)), (48, (some v48_55))] h55 nx55 (r_append1 rfl rfl (And.intro rfl (And.intro rfl True.intro)) rfl H) ?_
        intro v49_58 h58 nx58 H S46_14
        have I46_14 := S46_14.1
        refine DJ.any 15 [(35, (some a0_34))] (a_nil rfl rfl H) ?_
        intro v50_59 H S46_15
        refine DJ.any 16 [(50, (some v50_59))] (a_fieldAddr rfl rfl H) ?_
        intro v51_60 H S46_16
        refine DJ.wr 17 [(49, (some v49_58)), (51, (some v51_60))] h58 nx58 (r_store rfl rfl rfl H) ?_
        intro h61 H S46_17
        have I46_17 := S46_17.1
        exact CJ.draw1 [(some a0_34), (some a0_34), (some v37_47), (some v38_48), (some v39_49), (some a0_34), (some v41_50), (some v42_51), (some v43_52), (some v44_53), (some a6_34), (some v33_44), (some v47_54), (some v48_55), (some v49_58), (some v50_59), (some v51_60), none] [13, 14, 17] [(h43, nx43), (h55, nx55), (h58, nx58), (h61, nx58)] [] [0, 1, 2, 3, 4, 5, 6, 7, 8, 9, 10, 11, 12, 13, 14, 15, 16, 17] [0, 1, 2, 3, 4, 5, 6, 7, 8, 9, 10, 11, 12, 13, 14, 15, 16, 17] [0, 1, 2, 3, 4, 5, 6, 7, 8, 9, 10, 11, 12, 13, 14, 15, 16, 17] (by decide +kernel) (And.intro (F_any (Ti := [(0, (some a0_34))]) hm46 [(0, none)] (by decide +kernel) (And.intro rfl (And.intro rfl True.intro)) (guard_no rfl) rfl rfl S46_0) (And.intro (F_any (Ti := [(0, (some a0_34))]) hm46 [(0, none)] (by decide +kernel) (And.intro rfl (And.intro rfl True.intro)) (guard_no rfl) rfl rfl S46_1) (And.intro (F_any (Ti := [(36, (some a0_34))]) hm46 [(36, some 1)] (by decide +kernel) (And.intro rfl (And.intro rfl True.intro)) (guard_no rfl) rfl rfl S46_2) (And.intro (F_any (Ti := [(37, (some v37_47))]) hm46 [(37, some 2)] (by decide +kernel) (And.intro rfl (And.intro rfl True.intro)) (guard_no rfl) rfl rfl S46_3) (And.intro (F_read (Ti := [(38, (some v38_48))]) hm46 [(38, some 3)] (by decide +kernel) (And.intro rfl (And.intro rfl True.intro)) (guard_no rfl) rfl rfl 0 2 (by decide +kernel) (And.intro S46_4 (And.intro (opR_eq q56 Q56) True.intro))) (And.intro (F_any (Ti := [(0, (some a0_34))]) hm46 [(0, none)] (by decide +kernel) (And.intro rfl (And.intro rfl True.intro)) (guard_no rfl) rfl rfl S46_5) (And.intro (F_any (Ti := [(40, (some a0_34))]) hm46 [(40, some 5)] (by decide +kernel) (And.intro rfl (And.intro rfl True.intro)) (guard_no rfl) rfl rfl S46_6) (And.intro (F_any (Ti := [(41, (some v41_50))]) hm46 [(41, some 6)] (by decide +kernel) (And.intro rfl (And.intro rfl True.intro)) (guard_no rfl) rfl rfl S46_7) (And.intro (F_any (Ti := [(42, (some v42_51))]) hm46 [(42, some 7)] (by decide +kernel) (And.intro rfl (And.intro rfl True.intro)) (guard_no rfl) rfl rfl S46_8) (And.intro (F_read (Ti := [(43, (some v43_52))]) hm46 [(43, some 8)] (by decide +kernel) (And.intro rfl (And.intro rfl True.intro)) (guard_no rfl) rfl rfl 0 1 (by decide +kernel) (And.intro S46_9 True.intro)) (And.intro (F_any (Ti := [(6, (some a6_34))]) hm46 [(6, none)] (by decide +kernel) (And.intro rfl (And.intro rfl True.intro)) (guard_no rfl) rfl rfl S46_10) (And.intro (F_any (Ti := [(9, (some v33_44))]) hm46 [(9, none)] (by decide +kernel) (And.intro rfl (And.intro rfl True.intro)) (guard_no rfl) rfl rfl S46_11) (And.intro (F_any (Ti := [(44, (some v44_53)), (45, (some a6_34)), (46, (some v33_44))]) hm46 [(44, some 9), (45, some 10), (46, some 11)] (by decide +kernel) (And.intro rfl (And.intro rfl (And.intro rfl (And.intro rfl (And.intro rfl (And.intro rfl True.intro)))))) (guard_no rfl) rfl rfl S46_12) (And.intro (F_eff (Ti := [(47, (some v47_54))]) hm46 [(47, some 12)] (by decide +kernel) (And.intro rfl (And.intro rfl True.intro)) (guard_no rfl) rfl 0 rfl (by decide +kernel) S46_13 (Grow.refl _ _) (show nx43 ≤ nx43 by omega) True.intro) (And.intro (F_eff (Ti := [(39, (some v39_49)), (48, (some v48_55))]) hm46 [(39, some 4), (48, some 13)] (by decide +kernel) (And.intro rfl (And.intro rfl (And.intro rfl (And.intro rfl True.intro)))) (guard_no rfl) rfl 1 rfl (by decide +kernel) S46_14 (Grow.refl _ _) (show nx43 ≤ nx55 by omega) True.intro) (And.intro (F_any (Ti := [(35, (some a0_34))]) hm46 [(35, some 0)] (by decide +kernel) (And.intro rfl (And.intro rfl True.intro)) (guard_no rfl) rfl rfl S46_15) (And.intro (F_any (Ti := [(50, (some v50_59))]) hm46 [(50, some 15)] (by decide +kernel) (And.intro rfl (And.intro rfl True.intro)) (guard_no rfl) rfl rfl S46_16) (And.intro (F_eff (Ti := [(49, (some v49_58)), (51, (some v51_60))]) hm46 [(49, some 14), (51, some 16)] (by decide +kernel) (And.intro rfl (And.intro rfl (And.intro rfl (And.intro rfl True.intro)))) (guard_no rfl) rfl 2 rfl (by decide +kernel) S46_17 (Grow.refl _ _) (show nx43 ≤ nx58 by omega) True.intro) True.intro)))))))))))))))))) rfl (And.intro (by omega) (And.intro (by omega) (And.intro (by omega) (And.intro (by omega) True.intro)))) True.intro (Grow.refl _ _) [(0, none), (5, none), (6, none), (24, none), (25, none), (26, none)] [(0, (some a0_34)), (5, (some a5_34)), (6, (some a6_34)), (24, (some a24_34)), (25, (some a25_34)), (26, (some a26_34))] (by decide +kernel) (And.intro rfl (And.intro rfl (And.intro rfl (And.intro rfl (And.intro rfl (And.intro rfl (And.intro rfl (And.intro rfl (And.intro rfl (And.intro rfl (And.intro rfl (And.intro rfl True.intro)))))))))))) rfl (Exists.intro (a0_34, a5_34, a6_34, a24_34, a25_34, a26_34, ()) (And.intro rfl H))
      · intro ⟨a0_36, a5_36, a6_36, a24_36, a25_36, a26_36, _u⟩ h nx H
        refine CJ.region ?_
        refine OJ.rd rfl rfl rfl (r_bin rfl rfl rfl H) ?_
        intro v52_37 H
        refine OJ.mv rfl rfl rfl (r_move rfl rfl) ?_
        exact OJ.done [(0, (some a0_36)), (5, (some a5_36)), (6, (some a6_36)), (24, (some a24_36)), (25, (some a25_36)), (26, (some v52_37))] (And.intro rfl (And.intro rfl (And.intro rfl (And.intro rfl (And.intro rfl (And.intro rfl True.intro)))))) (ih30p (a0_36, a5_36, a6_36, a24_36, a25_36, v52_37, ()) _ _ H)
  · intro ⟨a5_9, _u⟩ h nx H
    refine CJ.seq (CJ.cut (X := Value × Unit) (fun x h nx => H17_j10 k  x.1 h nx) (fun x => [(5, some x.1)]) ?_ ?_)
    · refine CJ.seq ?_
      refine CJ.region ?_
      refine OJ.rd rfl rfl rfl (r_fieldAddr rfl rfl H) ?_
      intro v53_25 H
      refine OJ.rd rfl rfl rfl (r_load rfl rfl H) ?_
      intro v54_26 H
      refine OJ.fin ?_
      refine CJ.ite rfl H (fun H => ?_) (fun H => ?_)
      · cases H
      · exact CJ.skip [(5, (some a5_9))] (And.intro rfl True.intro) (Exists.intro (a5_9, ()) (And.intro rfl H))
    · intro ⟨a5_11, _u⟩ h nx H
      refine CJ.seq (CJ.cut (X := Value × Unit) (fun x h nx => H17_j12 k  x.1 h nx) (fun x => [(5, some x.1)]) ?_ ?_)
      · refine CJ.seq ?_
        refine CJ.region ?_
        refine OJ.rd rfl rfl rfl (r_fieldAddr rfl rfl H) ?_
        intro v66_22 H
        refine OJ.rd rfl rfl rfl (r_load rfl rfl H) ?_
        intro v67_23 H
        refine OJ.rd rfl rfl rfl (r_bin rfl rfl rfl H) ?_
        intro v68_24 H
        refine OJ.fin ?_
        refine CJ.ite rfl H (fun H => ?_) (fun H => ?_)
        · cases H
        · exact CJ.skip [(5, (some a5_11))] (And.intro rfl True.intro) (Exists.intro (a5_11, ()) (And.intro rfl H))
      · intro ⟨a5_13, _u⟩ h nx H
        refine CJ.seq ?_
        refine CJ.region ?_
        refine OJ.rd rfl rfl rfl (r_fieldAddr rfl rfl H) ?_
        intro v90_14 H
        refine OJ.rd rfl rfl rfl (r_load rfl rfl H) ?_
        intro v91_15 H
        refine OJ.rd rfl rfl rfl (r_len (x := default) rfl rfl (And.intro rfl True.intro) rfl H) ?_
        intro v92_16 H
        refine OJ.mv rfl rfl rfl (r_move rfl rfl) ?_
        refine OJ.fin ?_
        refine CJ.block ?_
        refine CJ.weaken [(92, (some v92_16)), (93, (some (.int .i64 (.ofNat 0))))] (And.intro rfl (And.intro rfl True.intro)) ?_
        refine CJ.loop_ind (X := Value × Value × Unit) (fun n x h nx => H17_l17 k  n x.1 x.2.1 h nx) (fun x => [(92, some x.1), (93, some x.2.1)]) (fun _ _ _ => rfl) ?_ 200000 (v92_16, (.int .i64 (.ofNat 0)), ()) _ _ H
        intro ih17n ih17p ⟨a92_18, a93_18, _u⟩ h nx H
        let ih17 := H17_l17 k  ih17n
        refine CJ.seq ?_
        refine CJ.region ?_
        refine OJ.rd rfl rfl rfl (r_bin rfl rfl rfl H) ?_
        intro v94_19 H
        refine OJ.fin ?_
        refine CJ.seq (CJ.cut (X := Unit) (fun x h nx => H17_j20 k ih17  h nx) (fun x => []) ?_ ?_)
        · refine CJ.ite rfl H (fun H => ?_) (fun H => ?_)
          · cases H
          · refine CJ.exit1 ?_
            exact ret_many (vs := []) [] (Or.inl rfl) rfl True.intro H
        · intro _u h nx H
          cases H

/-! 22 -/
noncomputable def H22_j3 (k : KV) (ih1 : Value → Heap → Nat → Bool)  (h : Heap) (nx : Nat) : Bool :=
  false
noncomputable def H22_l1 (k : KV)  (n : Nat) : Value → Heap → Nat → Bool :=
  Nat.rec (motive := fun _ => Value → Heap → Nat → Bool) (fun _ _ _ => false) (fun _ ih1 a0_2 h nx => hNil a0_2 fun v9_5 =>
  hFieldAddr Tryz.prog 43 v9_5 4 fun v10_6 =>
  loadK Tryz.prog 40 v10_6 h fun v11_7 =>
  lenK Tryz.prog 40 v11_7 h fun v12_8 =>
  binK Tryz.prog .gtr 3 (.tmp 12) (.const (.int .i64 (.ofNat 0))) v12_8 (.int .i64 (.ofNat 0)) fun v13_9 =>
  hIf v13_9 (fun _ => false) (fun _ => hRet [] h nx k)) n
noncomputable def H22 (a0 : Value) (h : Heap) (nx : Nat) (k : KV) : Bool :=
  H22_l1 k  200000 a0 h nx
theorem sim22 {a0 : Value} {h : Heap} {nx : Nat} {k : KV} (H : H22 a0 h nx k = true) : ∃ v h' nx', k v h' nx' = true ∧ CallSim Tryz.prog 22 [a0] h nx v h' nx' := by
  refine fn_rule Tryz.func22 rfl rfl ?_
  refine CJ.block ?_
  refine CJ.weaken [(0, (some a0))] (And.intro rfl True.intro) ?_
  refine CJ.loop_ind (X := Value × Unit) (fun n x h nx => H22_l1 k  n x.1 h nx) (fun x => [(0, some x.1)]) (fun _ _ _ => rfl) ?_ 200000 (a0, ()) _ _ H
  intro ih1n ih1p ⟨a0_2, _u⟩ h nx H
  let ih1 := H22_l1 k  ih1n
  refine CJ.seq (CJ.cut (X := Unit) (fun x h nx => H22_j3 k ih1  h nx) (fun x => []) ?_ ?_)
  · refine CJ.seq ?_
    refine CJ.region ?_
    refine OJ.mv rfl rfl rfl (r_move rfl rfl) ?_
    refine OJ.rd rfl rfl rfl (r_nil rfl rfl H) ?_
    intro v9_5 H
    refine OJ.rd rfl rfl rfl (r_fieldAddr rfl rfl H) ?_
    intro v10_6 H
    refine OJ.rd rfl rfl rfl (r_load rfl rfl H) ?_
    intro v11_7 H
    refine OJ.rd rfl rfl rfl (r_len (x := default) rfl rfl (And.intro rfl True.intro) rfl H) ?_
    intro v12_8 H
    refine OJ.rd rfl rfl rfl (r_bin rfl rfl rfl H) ?_
    intro v13_9 H
    refine OJ.fin ?_
    refine CJ.ite rfl H (fun H => ?_) (fun H => ?_)
    · cases H
    · refine CJ.exit1 ?_
      exact ret_many (vs := []) [] (Or.inl rfl) rfl True.intro H
  · intro _u h nx H
    cases H

/-! 36 -/
noncomputable def H36 (a0 : Value) (h : Heap) (nx : Nat) (k : KV) : Bool :=
  hBox a0 h nx fun v1_1 h1 nx1 =>
  hFieldAddr Tryz.prog 59 v1_1 2 fun v3_2 =>
  hFieldAddr Tryz.prog 55 v3_2 0 fun v4_3 =>
  hFieldAddr Tryz.prog 48 v4_3 3 fun v5_4 =>
  loadK Tryz.prog 4 v5_4 h1 fun v6_5 =>
  k v6_5 h1 nx1
theorem sim36 {a0 : Value} {h : Heap} {nx : Nat} {k : KV} (H : H36 a0 h nx k = true) : ∃ v h' nx', k v h' nx' = true ∧ CallSim Tryz.prog 36 [a0] h nx v h' nx' := by
  refine fn_rule Tryz.func36 rfl rfl ?_
  refine CJ.seq ?_
  refine CJ.region ?_
  refine OJ.fu rfl rfl rfl (r_box rfl rfl H) ?_
  intro v1_1 h1 nx1 H
  refine OJ.mv rfl rfl rfl (r_assign rfl rfl) ?_
  refine OJ.fin ?_
  refine CJ.seq ?_
  refine CJ.region ?_
  refine OJ.rd rfl rfl rfl (r_fieldAddr rfl rfl H) ?_
  intro v3_2 H
  refine OJ.rd rfl rfl rfl (r_fieldAddr rfl rfl H) ?_
  intro v4_3 H
  refine OJ.rd rfl rfl rfl (r_fieldAddr rfl rfl H) ?_
  intro v5_4 H
  refine OJ.rd rfl rfl rfl (r_load rfl rfl H) ?_
  intro v6_5 H
  refine OJ.mv rfl rfl rfl (r_assign rfl rfl) ?_
  refine OJ.fin ?_
  refine CJ.ret1 ?_
  exact ret_one (Or.inr rfl) rfl rfl H

/-! 62 -/
noncomputable def H62_j1 (k : KV)   (h : Heap) (nx : Nat) : Bool :=
  k (.int .i64 (.negSucc 0)) h nx
noncomputable def H62_j9 (k : KV) (ih4 : Value → Value → Value → Value → Heap → Nat → Bool) (a0_10 : Value) (a1_10 : Value) (a7_10 : Value) (a8_10 : Value) (h : Heap) (nx : Nat) : Bool :=
  binK Tryz.prog .add 3 (.tmp 8) (.const (.int .i64 (.ofNat 1))) a8_10 (.int .i64 (.ofNat 1)) fun v18_11 =>
  ih4 a0_10 a1_10 a7_10 v18_11 h nx
noncomputable def H62_j7 (k : KV) (ih4 : Value → Value → Value → Value → Heap → Nat → Bool) (a0_8 : Value) (a1_8 : Value) (a7_8 : Value) (a8_8 : Value) (h : Heap) (nx : Nat) : Bool :=
  hIndexAddr Tryz.prog 37 a0_8 a8_8 fun v14_12 =>
  loadK Tryz.prog 59 v14_12 h fun v15_13 =>
  hFn a1_8 fun fn14 fs14 cs14 => hIs fn14 36 (fun _ => hL0 fs14 fun _ => hL0 cs14 fun _ => H36 v15_13 h nx fun v16_16 h16 nx16 =>
  hIf v16_16 (fun _ => false) (fun _ => H62_j9 k ih4 a0_8 a1_8 a7_8 a8_8 h16 nx16)) (fun _ => false)
noncomputable def H62_l4 (k : KV)  (n : Nat) : Value → Value → Value → Value → Heap → Nat → Bool :=
  Nat.rec (motive := fun _ => Value → Value → Value → Value → Heap → Nat → Bool) (fun _ _ _ _ _ _ => false) (fun _ ih4 a0_5 a1_5 a7_5 a8_5 h nx => binK Tryz.prog .lss 3 (.tmp 8) (.tmp 7) a8_5 a7_5 fun v9_6 =>
  hIf v9_6 (fun _ => H62_j7 k ih4 a0_5 a1_5 a7_5 a8_5 h nx) (fun _ => H62_j1 k   h nx)) n
noncomputable def H62 (a0 : Value) (a1 : Value) (h : Heap) (nx : Nat) (k : KV) : Bool :=
  lenK Tryz.prog 37 a0 h fun v7_3 =>
  H62_l4 k  200000 a0 a1 v7_3 (.int .i64 (.ofNat 0)) h nx
theorem sim62 {a0 a1 : Value} {h : Heap} {nx : Nat} {k : KV} (H : H62 a0 a1 h nx k = true) : ∃ v h' nx', k v h' nx' = true ∧ CallSim Tryz.prog 62 [a0, a1] h nx v h' nx' := by
  refine fn_rule Tryz.func62 rfl rfl ?_
  refine CJ.seq ?_
  refine CJ.region ?_
  refine OJ.mv rfl rfl rfl (r_assign rfl rfl) ?_
  refine OJ.fin ?_
  refine CJ.seq (CJ.cut (X := Unit) (fun x h nx => H62_j1 k   h nx) (fun x => []) ?_ ?_)
  · refine CJ.seq ?_
    refine CJ.region ?_
    refine OJ.mv rfl rfl rfl (r_move rfl rfl) ?_
    refine OJ.rd rfl rfl rfl (r_len (x := default) rfl rfl (And.intro rfl True.intro) rfl H) ?_
    intro v7_3 H
    refine OJ.mv rfl rfl rfl (r_move rfl rfl) ?_
    refine OJ.fin ?_
    refine CJ.block ?_
    refine CJ.weaken [(0, (some a0)), (1, (some a1)), (7, (some v7_3)), (8, (some (.int .i64 (.ofNat 0))))] (And.intro rfl (And.intro rfl (And.intro rfl (And.intro rfl True.intro)))) ?_
    refine CJ.loop_ind (X := Value × Value × Value × Value × Unit) (fun n x h nx => H62_l4 k  n x.1 x.2.1 x.2.2.1 x.2.2.2.1 h nx) (fun x => [(0, some x.1), (1, some x.2.1), (7, some x.2.2.1), (8, some x.2.2.2.1)]) (fun _ _ _ => rfl) ?_ 200000 (a0, a1, v7_3, (.int .i64 (.ofNat 0)), ()) _ _ H
    intro ih4n ih4p ⟨a0_5, a1_5, a7_5, a8_5, _u⟩ h nx H
    let ih4 := H62_l4 k  ih4n
    refine CJ.seq ?_
    refine CJ.region ?_
    refine OJ.rd rfl rfl rfl (r_bin rfl rfl rfl H) ?_
    intro v9_6 H
    refine OJ.fin ?_
    refine CJ.seq (CJ.cut (X := Value × Value × Value × Value × Unit) (fun x h nx => H62_j7 k ih4 x.1 x.2.1 x.2.2.1 x.2.2.2.1 h nx) (fun x => [(0, some x.1), (1, some x.2.1), (7, some x.2.2.1), (8, some x.2.2.2.1)]) ?_ ?_)
    · refine CJ.ite rfl H (fun H => ?_) (fun H => ?_)
      · exact CJ.skip [(0, (some a0_5)), (1, (some a1_5)), (7, (some a7_5)), (8, (some a8_5))] (And.intro rfl (And.intro rfl (And.intro rfl (And.intro rfl True.intro)))) (Exists.intro (a0_5, a1_5, a7_5, a8_5, ()) (And.intro rfl H))
      · exact CJ.exit [] True.intro (Exists.intro () (And.intro rfl H))
    · intro ⟨a0_8, a1_8, a7_8, a8_8, _u⟩ h nx H
      refine CJ.seq (CJ.cut (X := Value × Value × Value × Value × Unit) (fun x h nx => H62_j9 k ih4 x.1 x.2.1 x.2.2.1 x.2.2.2.1 h nx) (fun x => [(0, some x.1), (1, some x.2.1), (7, some x.2.2.1), (8, some x.2.2.2.1)]) ?_ ?_)
      · refine CJ.block ?_
        refine CJ.seq ?_
        refine CJ.region ?_
        refine OJ.mv rfl rfl rfl (r_move rfl rfl) ?_
        refine OJ.mv rfl rfl rfl (r_assign rfl rfl) ?_
        refine OJ.fin ?_
        refine CJ.seq ?_
        refine CJ.region ?_
        refine OJ.mv rfl rfl rfl (r_move rfl rfl) ?_
        refine OJ.mv rfl rfl rfl (r_move rfl rfl) ?_
        refine OJ.mv rfl rfl rfl (r_move rfl rfl) ?_
        refine OJ.rd rfl rfl rfl (r_indexAddr rfl rfl rfl H) ?_
        intro v14_12 H
        refine OJ.rd rfl rfl rfl (r_load rfl rfl H) ?_
        intro v15_13 H
        obtain ⟨fn14, fs14, cs14, eqf14, G_⟩ := hFn_true H
        clear H
        refine (hIs_true G_).elim (fun G2_ => ?_) (fun G2_ => ?_)
        · obtain ⟨eq_, H⟩ := G2_
          clear G_
          subst eq_
          obtain ⟨eq_, G_⟩ := hL0_true H
          clear H
          subst eq_
          have H := G_
          clear G_
          obtain ⟨eq_, G_⟩ := hL0_true H
          clear H
          subst eq_
          have H := G_
          clear G_
          refine OJ.fu rfl rfl rfl (r_callv (args := [v15_13]) rfl rfl (congrArg some eqf14) (And.intro rfl True.intro) Tryz.call36 (sim36 H)) ?_
          intro v16_16 h16 nx16 H
          refine OJ.fin ?_
          refine CJ.ite rfl H (fun H => ?_) (fun H => ?_)
          · cases H
          · exact CJ.skip [(0, (some a0_8)), (1, (some a1_8)), (7, (some a7_8)), (8, (some a8_8))] (And.intro rfl (And.intro rfl (And.intro rfl (And.intro rfl True.intro)))) (Exists.intro (a0_8, a1_8, a7_8, a8_8, ()) (And.intro rfl H))
        · clear G_
          cases G2_
      · intro ⟨a0_10, a1_10, a7_10, a8_10, _u⟩ h nx H
        refine CJ.region ?_
        refine OJ.rd rfl rfl rfl (r_bin rfl rfl rfl H) ?_
        intro v18_11 H
        refine OJ.mv rfl rfl rfl (r_move rfl rfl) ?_
        exact OJ.done [(0, (some a0_10)), (1, (some a1_10)), (7, (some a7_10)), (8, (some v18_11))] (And.intro rfl (And.intro rfl (And.intro rfl (And.intro rfl True.intro)))) (ih4p (a0_10, a1_10, a7_10, v18_11, ()) _ _ H)
  · intro _u h nx H
    refine CJ.seq ?_
    refine CJ.region ?_
    refine OJ.mv rfl rfl rfl (r_assign rfl rfl) ?_
    refine OJ.fin ?_
    refine CJ.ret1 ?_
    exact ret_one (Or.inr rfl) rfl rfl H

/-! 35 -/
noncomputable def H35 (a0 : Value) (a1 : Value) (h : Heap) (nx : Nat) (k : KV) : Bool :=
  H62 a0 a1 h nx fun v7_1 h1 nx1 =>
  binK Tryz.prog .geq 3 (.tmp 7) (.const (.int .i64 (.ofNat 0))) v7_1 (.int .i64 (.ofNat 0)) fun v8_2 =>
  k v8_2 h1 nx1
theorem sim35 {a0 a1 : Value} {h : Heap} {nx : Nat} {k : KV} (H : H35 a0 a1 h nx k = true) : ∃ v h' nx', k v h' nx' = true ∧ CallSim Tryz.prog 35 [a0, a1] h nx v h' nx' := by
  refine fn_rule Tryz.func35 rfl rfl ?_
  refine CJ.seq ?_
  refine CJ.region ?_
  refine OJ.mv rfl rfl rfl (r_assign rfl rfl) ?_
  refine OJ.fin ?_
  refine CJ.seq ?_
  refine CJ.region ?_
  refine OJ.mv rfl rfl rfl (r_move rfl rfl) ?_
  refine OJ.mv rfl rfl rfl (r_move rfl rfl) ?_
  refine OJ.fu rfl rfl rfl (r_call (args := [a0, a1]) rfl rfl rfl (And.intro rfl (And.intro rfl True.intro)) Tryz.call62 (sim62 H)) ?_
  intro v7_1 h1 nx1 H
  refine OJ.rd rfl rfl rfl (r_bin rfl rfl rfl H) ?_
  intro v8_2 H
  refine OJ.mv rfl rfl rfl (r_assign rfl rfl) ?_
  refine OJ.fin ?_
  refine CJ.ret1 ?_
  exact ret_one (Or.inr rfl) rfl rfl H

/-! 81 -/
noncomputable def H81_j2 (k : KV)  (a5_3 : Value) (h : Heap) (nx : Nat) : Bool :=
  k a5_3 h nx
noncomputable def H81_j8 (k : KV) (ih5 : Value → Value → Value → Heap → Nat → Bool)  (h : Heap) (nx : Nat) : Bool :=
  false
noncomputable def H81_l5 (k : KV)  (n : Nat) : Value → Value → Value → Heap → Nat → Bool :=
  Nat.rec (motive := fun _ => Value → Value → Value → Heap → Nat → Bool) (fun _ _ _ _ _ => false) (fun _ ih5 a5_6 a9_6 a10_6 h nx => binK Tryz.prog .lss 3 (.tmp 10) (.tmp 9) a10_6 a9_6 fun v11_7 =>
  hIf v11_7 (fun _ => false) (fun _ => H81_j2 k  a5_6 h nx)) n
noncomputable def H81 (a0 : Value) (a1 : Value) (h : Heap) (nx : Nat) (k : KV) : Bool :=
  hBox a0 h nx fun v2_1 h1 nx1 =>
  lenK Tryz.prog 170 a1 h1 fun v9_4 =>
  H81_l5 k  200000 (.slice none 0 0) v9_4 (.int .i64 (.ofNat 0)) h1 nx1
theorem sim81 {a0 a1 : Value} {h : Heap} {nx : Nat} {k : KV} (H : H81 a0 a1 h nx k = true) : ∃ v h' nx', k v h' nx' = true ∧ CallSim Tryz.prog 81 [a0, a1] h nx v h' nx' := by
  refine fn_rule Tryz.func81 rfl rfl ?_
  refine CJ.seq ?_
  refine CJ.region ?_
  refine OJ.fu rfl rfl rfl (r_box rfl rfl H) ?_
  intro v2_1 h1 nx1 H
  refine OJ.mv rfl rfl rfl (r_assign rfl rfl) ?_
  refine OJ.fin ?_
  refine CJ.seq ?_
  refine CJ.region ?_
  refine OJ.mv rfl rfl rfl (r_assign rfl rfl) ?_
  refine OJ.fin ?_
  refine CJ.seq (CJ.cut (X := Value × Unit) (fun x h nx => H81_j2 k  x.1 h nx) (fun x => [(5, some x.1)]) ?_ ?_)
  · refine CJ.seq ?_
    refine CJ.region ?_
    refine OJ.mv rfl rfl rfl (r_move rfl rfl) ?_
    refine OJ.rd rfl rfl rfl (r_len (x := default) rfl rfl (And.intro rfl True.intro) rfl H) ?_
    intro v9_4 H
    refine OJ.mv rfl rfl rfl (r_move rfl rfl) ?_
    refine OJ.fin ?_
    refine CJ.block ?_
    refine CJ.weaken [(5, (some (.slice none 0 0))), (9, (some v9_4)), (10, (some (.int .i64 (.ofNat 0))))] (And.intro rfl (And.intro rfl (And.intro rfl True.intro))) ?_
    refine CJ.loop_ind (X := Value × Value × Value × Unit) (fun n x h nx => H81_l5 k  n x.1 x.2.1 x.2.2.1 h nx) (fun x => [(5, some x.1), (9, some x.2.1), (10, some x.2.2.1)]) (fun _ _ _ => rfl) ?_ 200000 ((.slice none 0 0), v9_4, (.int .i64 (.ofNat 0)), ()) _ _ H
    intro ih5n ih5p ⟨a5_6, a9_6, a10_6, _u⟩ h nx H
    let ih5 := H81_l5 k  ih5n
    refine CJ.seq ?_
    refine CJ.region ?_
    refine OJ.rd rfl rfl rfl (r_bin rfl rfl rfl H) ?_
    intro v11_7 H
    refine OJ.fin ?_
    refine CJ.seq (CJ.cut (X := Unit) (fun x h nx => H81_j8 k ih5  h nx) (fun x => []) ?_ ?_)
    · refine CJ.ite rfl H (fun H => ?_) (fun H => ?_)
      · cases H
      · exact CJ.exit [(5, (some a5_6))] (And.intro rfl True.intro) (Exists.intro (a5_6, ()) (And.intro rfl H))
    · intro _u h nx H
      cases H
  · intro ⟨a5_3, _u⟩ h nx H
    refine CJ.seq ?_
    refine CJ.region ?_
    refine OJ.mv rfl rfl rfl (r_move rfl rfl) ?_
    refine OJ.mv rfl rfl rfl (r_assign rfl rfl) ?_
    refine OJ.fin ?_
    refine CJ.ret1 ?_
    exact ret_one (Or.inr rfl) rfl rfl H

/-! 115 -/
noncomputable def H115_j1 (k : KV)  (a3_2 : Value) (h : Heap) (nx : Nat) : Bool :=
  k a3_2 h nx
noncomputable def H115_j7 (k : KV) (ih4 : Value → Value → Value → Heap → Nat → Bool)  (h : Heap) (nx : Nat) : Bool :=
  false
noncomputable def H115_l4 (k : KV)  (n : Nat) : Value → Value → Value → Heap → Nat → Bool :=
  Nat.rec (motive := fun _ => Value → Value → Value → Heap → Nat → Bool) (fun _ _ _ _ _ => false) (fun _ ih4 a3_5 a7_5 a8_5 h nx => binK Tryz.prog .lss 3 (.tmp 8) (.tmp 7) a8_5 a7_5 fun v9_6 =>
  hIf v9_6 (fun _ => false) (fun _ => H115_j1 k  a3_5 h nx)) n
noncomputable def H115 (a0 : Value) (h : Heap) (nx : Nat) (k : KV) : Bool :=
  lenK Tryz.prog 49 a0 h fun v7_3 =>
  H115_l4 k  200000 (.slice none 0 0) v7_3 (.int .i64 (.ofNat 0)) h nx
theorem sim115 {a0 : Value} {h : Heap} {nx : Nat} {k : KV} (H : H115 a0 h nx k = true) : ∃ v h' nx', k v h' nx' = true ∧ CallSim Tryz.prog 115 [a0] h nx v h' nx' := by
  refine fn_rule Tryz.func115 rfl rfl ?_
  refine CJ.seq ?_
  refine CJ.region ?_
  refine OJ.mv rfl rfl rfl (r_assign rfl rfl) ?_
  refine OJ.fin ?_
  refine CJ.seq ?_
  refine CJ.region ?_
  refine OJ.mv rfl rfl rfl (r_assign rfl rfl) ?_
  refine OJ.fin ?_
  refine CJ.seq (CJ.cut (X := Value × Unit) (fun x h nx => H115_j1 k  x.1 h nx) (fun x => [(3, some x.1)]) ?_ ?_)
  · refine CJ.seq ?_
    refine CJ.region ?_
    refine OJ.mv rfl rfl rfl (r_move rfl rfl) ?_
    refine OJ.rd rfl rfl rfl (r_len (x := default) rfl rfl (And.intro rfl True.intro) rfl H) ?_
    intro v7_3 H
    refine OJ.mv rfl rfl rfl (r_move rfl rfl) ?_
    refine OJ.fin ?_
    refine CJ.block ?_
    refine CJ.weaken [(3, (some (.slice none 0 0))), (7, (some v7_3)), (8, (some (.int .i64 (.ofNat 0))))] (And.intro rfl (And.intro rfl (And.intro rfl True.intro))) ?_
    refine CJ.loop_ind (X := Value × Value × Value × Unit) (fun n x h nx => H115_l4 k  n x.1 x.2.1 x.2.2.1 h nx) (fun x => [(3, some x.1), (7, some x.2.1), (8, some x.2.2.1)]) (fun _ _ _ => rfl) ?_ 200000 ((.slice none 0 0), v7_3, (.int .i64 (.ofNat 0)), ()) _ _ H
    intro ih4n ih4p ⟨a3_5, a7_5, a8_5, _u⟩ h nx H
    let ih4 := H115_l4 k  ih4n
    refine CJ.seq ?_
    refine CJ.region ?_
    refine OJ.rd rfl rfl rfl (r_bin rfl rfl rfl H) ?_
    intro v9_6 H
    refine OJ.fin ?_
    refine CJ.seq (CJ.cut (X := Unit) (fun x h nx => H115_j7 k ih4  h nx) (fun x => []) ?_ ?_)
    · refine CJ.ite rfl H (fun H => ?_) (fun H => ?_)
      · cases H
      · exact CJ.exit [(3, (some a3_5))] (And.intro rfl True.intro) (Exists.intro (a3_5, ()) (And.intro rfl H))
    · intro _u h nx H
      cases H
  · intro ⟨a3_2, _u⟩ h nx H
    refine CJ.seq ?_
    refine CJ.region ?_
    refine OJ.mv rfl rfl rfl (r_move rfl rfl) ?_
    refine OJ.mv rfl rfl rfl (r_assign rfl rfl) ?_
    refine OJ.fin ?_
    refine CJ.ret1 ?_
    exact ret_one (Or.inr rfl) rfl rfl H

/-! 116 -/
noncomputable def H116_j2 (k : KV)  (a7_3 : Value) (h : Heap) (nx : Nat) : Bool :=
  k a7_3 h nx
noncomputable def H116_j6 (k : KV) (ih4 : Value → Value → Value → Heap → Nat → Bool)  (h : Heap) (nx : Nat) : Bool :=
  false
noncomputable def H116_l4 (k : KV)  (n : Nat) : Value → Value → Value → Heap → Nat → Bool :=
  Nat.rec (motive := fun _ => Value → Value → Value → Heap → Nat → Bool) (fun _ _ _ _ _ => false) (fun _ ih4 a2_5 a7_5 a8_5 h nx => binK Tryz.prog .lss 3 (.tmp 10) (.tmp 11) a8_5 a2_5 fun v12_8 =>
  hIf v12_8 (fun _ => false) (fun _ => H116_j2 k  a7_5 h nx)) n
noncomputable def H116 (a0 : Value) (a1 : Value) (a2 : Value) (h : Heap) (nx : Nat) (k : KV) : Bool :=
  hBox a0 h nx fun v3_1 h1 nx1 =>
  H116_l4 k  200000 a2 (.slice none 0 0) a1 h1 nx1
theorem sim116 {a0 a1 a2 : Value} {h : Heap} {nx : Nat} {k : KV} (H : H116 a0 a1 a2 h nx k = true) : ∃ v h' nx', k v h' nx' = true ∧ CallSim Tryz.prog 116 [a0, a1, a2] h nx v h' nx' := by
  refine fn_rule Tryz.func116 rfl rfl ?_
  refine CJ.seq ?_
  refine CJ.region ?_
  refine OJ.fu rfl rfl rfl (r_box rfl rfl H) ?_
  intro v3_1 h1 nx1 H
  refine OJ.mv rfl rfl rfl (r_assign rfl rfl) ?_
  refine OJ.fin ?_
  refine CJ.seq ?_
  refine CJ.region ?_
  refine OJ.mv rfl rfl rfl (r_assign rfl rfl) ?_
  refine OJ.fin ?_
  refine CJ.seq (CJ.cut (X := Value × Unit) (fun x h nx => H116_j2 k  x.1 h nx) (fun x => [(7, some x.1)]) ?_ ?_)
  · refine CJ.seq ?_
    refine CJ.region ?_
    refine OJ.mv rfl rfl rfl (r_move rfl rfl) ?_
    refine OJ.mv rfl rfl rfl (r_assign rfl rfl) ?_
    refine OJ.fin ?_
    refine CJ.block ?_
    refine CJ.weaken [(2, (some a2)), (7, (some (.slice none 0 0))), (8, (some a1))] (And.intro rfl (And.intro rfl (And.intro rfl True.intro))) ?_
    refine CJ.loop_ind (X := Value × Value × Value × Unit) (fun n x h nx => H116_l4 k  n x.1 x.2.1 x.2.2.1 h nx) (fun x => [(2, some x.1), (7, some x.2.1), (8, some x.2.2.1)]) (fun _ _ _ => rfl) ?_ 200000 (a2, (.slice none 0 0), a1, ()) _ _ H
    intro ih4n ih4p ⟨a2_5, a7_5, a8_5, _u⟩ h nx H
    let ih4 := H116_l4 k  ih4n
    refine CJ.seq (CJ.cut (X := Unit) (fun x h nx => H116_j6 k ih4  h nx) (fun x => []) ?_ ?_)
    · refine CJ.seq ?_
      refine CJ.region ?_
      refine OJ.mv rfl rfl rfl (r_move rfl rfl) ?_
      refine OJ.mv rfl rfl rfl (r_move rfl rfl) ?_
      refine OJ.rd rfl rfl rfl (r_bin rfl rfl rfl H) ?_
      intro v12_8 H
      refine OJ.fin ?_
      refine CJ.ite rfl H (fun H => ?_) (fun H => ?_)
      · cases H
      · exact CJ.exit [(7, (some a7_5))] (And.intro rfl True.intro) (Exists.intro (a7_5, ()) (And.intro rfl H))
    · intro _u h nx H
      cases H
  · intro ⟨a7_3, _u⟩ h nx H
    refine CJ.seq ?_
    refine CJ.region ?_
    refine OJ.mv rfl rfl rfl (r_move rfl rfl) ?_
    refine OJ.mv rfl rfl rfl (r_assign rfl rfl) ?_
    refine OJ.fin ?_
    refine CJ.ret1 ?_
    exact ret_one (Or.inr rfl) rfl rfl H

/-! 102 -/
noncomputable def H102_j18 (k : KV)  (a1_19 : Value) (a2_19 : Value) (a7_19 : Value) (h : Heap) (nx : Nat) : Bool :=
  loadK Tryz.prog 51 a1_19 h fun v33_20 =>
  storeK Tryz.prog 51 a2_19 v33_20 h fun h21 =>
  loadK Tryz.prog 51 a2_19 h21 fun r22 => hNT a7_19 fun _ => hNT (.int .i64 (.ofNat 0)) fun _ => k (resV [r22, a7_19, (.int .i64 (.ofNat 0))]) h21 nx
noncomputable def H102_j3 (k : KV)  (a1_4 : Value) (a2_4 : Value) (h : Heap) (nx : Nat) : Bool :=
  hFieldAddr Tryz.prog 51 a1_4 2 fun v14_5 =>
  loadK Tryz.prog 49 v14_5 h fun v15_6 =>
  lenK Tryz.prog 49 v15_6 h fun v16_7 =>
  hMin Tryz.prog [3, 3] [(.int .i64 (.ofNat 16)), v16_7] fun v17_8 =>
  loadK Tryz.prog 51 a1_4 h fun v18_9 =>
  hFieldAddr Tryz.prog 51 a1_4 1 fun v19_10 =>
  loadK Tryz.prog 3 v19_10 h fun v20_11 =>
  H116 v18_9 v20_11 v17_8 h nx fun v22_12 h12 nx12 =>
  hFieldAddr Tryz.prog 51 a1_4 2 fun v23_13 =>
  loadK Tryz.prog 49 v23_13 h12 fun v24_14 =>
  H115 v24_14 h12 nx12 fun v25_15 h15 nx15 =>
  hFieldAddr Tryz.prog 51 a1_4 2 fun v26_16 =>
  storeK Tryz.prog 49 v26_16 v25_15 h15 fun h17 =>
  lenK Tryz.prog 170 v22_12 h17 fun v28_25 =>
  binK Tryz.prog .gtr 3 (.tmp 28) (.const (.int .i64 (.ofNat 0))) v28_25 (.int .i64 (.ofNat 0)) fun v29_26 =>
  hIf v29_26 (fun _ => false) (fun _ => H102_j18 k  a1_4 a2_4 v22_12 h17 nx15)
noncomputable def H102 (a0 : Value) (h : Heap) (nx : Nat) (k : KV) : Bool :=
  hBox a0 h nx fun v1_1 h1 nx1 =>
  hAlloc Tryz.prog 51 h1 nx1 fun v2_2 h2 nx2 =>
  loadK Tryz.prog 51 v1_1 h2 fun v8_27 =>
  H99 v8_27 h2 nx2 fun v9_28 h28 nx28 =>
  binK Tryz.prog .neq 44 (.tmp 10) (.const (.int .i64 (.ofNat 0))) v9_28 (.int .i64 (.ofNat 0)) fun v11_29 =>
  hIf v11_29 (fun _ => false) (fun _ => H102_j3 k  v1_1 v2_2 h28 nx28)
theorem sim102 {a0 : Value} {h : Heap} {nx : Nat} {k : KV} (H : H102 a0 h nx k = true) : ∃ v h' nx', k v h' nx' = true ∧ CallSim Tryz.prog 102 [a0] h nx v h' nx' := by
  refine fn_rule Tryz.func102 rfl rfl ?_
  refine CJ.seq ?_
  refine CJ.region ?_
  refine OJ.fu rfl rfl rfl (r_box rfl rfl H) ?_
  intro v1_1 h1 nx1 H
  refine OJ.fu rfl rfl rfl (r_alloc1 rfl H) ?_
  intro v2_2 h2 nx2 H
  refine OJ.mv rfl rfl rfl (r_assign rfl rfl) ?_
  refine OJ.mv rfl rfl rfl (r_assign rfl rfl) ?_
  refine OJ.fin ?_
  refine CJ.seq (CJ.cut (X := Value × Value × Unit) (fun x h nx => H102_j3 k  x.1 x.2.1 h nx) (fun x => [(1, some x.1), (2, some x.2.1)]) ?_ ?_)
  · refine CJ.seq ?_
    refine CJ.region ?_
    refine OJ.rd rfl rfl rfl (r_load rfl rfl H) ?_
    intro v8_27 H
    refine OJ.fu rfl rfl rfl (r_call (args := [v8_27]) rfl rfl rfl (And.intro rfl True.intro) Tryz.call99 (sim99 H)) ?_
    intro v9_28 h28 nx28 H
    refine OJ.mv rfl rfl rfl (r_assign rfl rfl) ?_
    refine OJ.fin ?_
    refine CJ.seq ?_
    refine CJ.region ?_
    refine OJ.mv rfl rfl rfl (r_move rfl rfl) ?_
    refine OJ.rd rfl rfl rfl (r_bin rfl rfl rfl H) ?_
    intro v11_29 H
    refine OJ.fin ?_
    refine CJ.ite rfl H (fun H => ?_) (fun H => ?_)
    · cases H
    · exact CJ.skip [(1, (some v1_1)), (2, (some v2_2))] (And.intro rfl (And.intro rfl True.intro)) (Exists.intro (v1_1, v2_2, ()) (And.intro rfl H))
  · intro ⟨a1_4, a2_4, _u⟩ h nx H
    refine CJ.seq ?_
    refine CJ.region ?_
    refine OJ.rd rfl rfl rfl (r_fieldAddr rfl rfl H) ?_
    intro v14_5 H
    refine OJ.rd rfl rfl rfl (r_load rfl rfl H) ?_
    intro v15_6 H
    refine OJ.rd rfl rfl rfl (r_len (x := default) rfl rfl (And.intro rfl True.intro) rfl H) ?_
    intro v16_7 H
    refine OJ.rd rfl rfl rfl (r_min (xs := [(.int .i64 (.ofNat 16)), v16_7]) rfl rfl (And.intro rfl (And.intro rfl True.intro)) rfl H) ?_
    intro v17_8 H
    refine OJ.mv rfl rfl rfl (r_assign rfl rfl) ?_
    refine OJ.fin ?_
    refine CJ.seq ?_
    refine CJ.region ?_
    refine OJ.rd rfl rfl rfl (r_load rfl rfl H) ?_
    intro v18_9 H
    refine OJ.rd rfl rfl rfl (r_fieldAddr rfl rfl H) ?_
    intro v19_10 H
    refine OJ.rd rfl rfl rfl (r_load rfl rfl H) ?_
    intro v20_11 H
    refine OJ.mv rfl rfl rfl (r_move rfl rfl) ?_
    refine OJ.fu rfl rfl rfl (r_call (args := [v18_9, v20_11, v17_8]) rfl rfl rfl (And.intro rfl (And.intro rfl (And.intro rfl True.intro))) Tryz.call116 (sim116 H)) ?_
    intro v22_12 h12 nx12 H
    refine OJ.mv rfl rfl rfl (r_assign rfl rfl) ?_
    refine OJ.fin ?_
    refine CJ.seq ?_
    refine CJ.region ?_
    refine OJ.rd rfl rfl rfl (r_fieldAddr rfl rfl H) ?_
    intro v23_13 H
    refine OJ.rd rfl rfl rfl (r_load rfl rfl H) ?_
    intro v24_14 H
    refine OJ.fu rfl rfl rfl (r_call (args := [v24_14]) rfl rfl rfl (And.intro rfl True.intro) Tryz.call115 (sim115 H)) ?_
    intro v25_15 h15 nx15 H
    refine OJ.rd rfl rfl rfl (r_fieldAddr rfl rfl H) ?_
    intro v26_16 H
    refine OJ.wr rfl rfl (r_store rfl rfl rfl H) ?_
    intro h17 H
    refine OJ.fin ?_
    refine CJ.seq (CJ.cut (X := Value × Value × Value × Unit) (fun x h nx => H102_j18 k  x.1 x.2.1 x.2.2.1 h nx) (fun x => [(1, some x.1), (2, some x.2.1), (7, some x.2.2.1)]) ?_ ?_)
    · refine CJ.seq ?_
      refine CJ.region ?_
      refine OJ.mv rfl rfl rfl (r_move rfl rfl) ?_
      refine OJ.rd rfl rfl rfl (r_len (x := default) rfl rfl (And.intro rfl True.intro) rfl H) ?_
      intro v28_25 H
      refine OJ.rd rfl rfl rfl (r_bin rfl rfl rfl H) ?_
      intro v29_26 H
      refine OJ.fin ?_
      refine CJ.ite rfl H (fun H => ?_) (fun H => ?_)
      · cases H
      · exact CJ.skip [(1, (some a1_4)), (2, (some a2_4)), (7, (some v22_12))] (And.intro rfl (And.intro rfl (And.intro rfl True.intro))) (Exists.intro (a1_4, a2_4, v22_12, ()) (And.intro rfl H))
    · intro ⟨a1_19, a2_19, a7_19, _u⟩ h nx H
      refine CJ.seq ?_
      refine CJ.region ?_
      refine OJ.rd rfl rfl rfl (r_load rfl rfl H) ?_
      intro v33_20 H
      refine OJ.mv rfl rfl rfl (r_move rfl rfl) ?_
      refine OJ.wr rfl rfl (r_store rfl rfl rfl H) ?_
      intro h21 H
      refine OJ.mv rfl rfl rfl (r_assign rfl rfl) ?_
      refine OJ.mv rfl rfl rfl (r_assign rfl rfl) ?_
      refine OJ.fin ?_
      refine CJ.ret1 ?_
      obtain ⟨r22, H, l22⟩ := load_val H
      obtain ⟨n23, H⟩ := hNT_true H
      obtain ⟨n24, H⟩ := hNT_true H
      exact ret_gen (vs := [r22, a7_19, (.int .i64 (.ofNat 0))]) (Or.inr rfl) (And.intro (Exists.intro a2_19 (And.intro rfl l22)) (And.intro rfl (And.intro n23 (And.intro rfl (And.intro n24 True.intro))))) H

/-! 103 -/
noncomputable def H103_j3 (k : KV)   (h : Heap) (nx : Nat) : Bool :=
  false
noncomputable def H103_g8 (k : KV)  (v1_1 : Value) (v2_2 : Value) (v7_7 : Value) (o9_9 : Option Value) (o10_9 : Option Value) (o11_9 : Option Value) (h : Heap) (nx : Nat) : Bool :=
  hPick v7_7 (some (.bool true)) o11_9 fun v12_10 =>
  hIf v12_10 (fun _ => loadK Tryz.prog 53 v1_1 h fun v13_11 =>
  storeK Tryz.prog 53 v2_2 v13_11 h fun h12 =>
  loadK Tryz.prog 53 v2_2 h12 fun r13 => hNT (.int .i64 (.ofNat 0)) fun _ => hNT (.bool false) fun _ => k (resV [r13, (.int .i64 (.ofNat 0)), (.bool false)]) h12 nx) (fun _ => false)
noncomputable def H103 (a0 : Value) (h : Heap) (nx : Nat) (k : KV) : Bool :=
  hBox a0 h nx fun v1_1 h1 nx1 =>
  hAlloc Tryz.prog 53 h1 nx1 fun v2_2 h2 nx2 =>
  loadK Tryz.prog 53 v1_1 h2 fun v5_5 =>
  H100 v5_5 h2 nx2 fun v6_6 h6 nx6 =>
  binK Tryz.prog .neq 44 (.tmp 6) (.const (.int .i64 (.ofNat 0))) v6_6 (.int .i64 (.ofNat 0)) fun v7_7 =>
  hG (some v7_7) false (fun _ => hFieldAddr Tryz.prog 53 v1_1 1 fun v9_16 =>
  loadK Tryz.prog 4 v9_16 h6 fun v10_17 =>
  hUn Tryz.prog .not v10_17 fun v11_18 =>
  H103_g8 k  v1_1 v2_2 v7_7 (some v9_16) (some v10_17) (some v11_18) h6 nx6) (fun _ => H103_g8 k  v1_1 v2_2 v7_7 none none none h6 nx6)
theorem sim103 {a0 : Value} {h : Heap} {nx : Nat} {k : KV} (H : H103 a0 h nx k = true) : ∃ v h' nx', k v h' nx' = true ∧ CallSim Tryz.prog 103 [a0] h nx v h' nx' := by
  refine fn_rule Tryz.func103 rfl rfl ?_
  refine CJ.seq ?_
  refine CJ.region ?_
  refine OJ.fu rfl rfl rfl (r_box rfl rfl H) ?_
  intro v1_1 h1 nx1 H
  refine OJ.fu rfl rfl rfl (r_alloc1 rfl H) ?_
  intro v2_2 h2 nx2 H
  refine OJ.mv rfl rfl rfl (r_assign rfl rfl) ?_
  refine OJ.mv rfl rfl rfl (r_assign rfl rfl) ?_
  refine OJ.fin ?_
  refine CJ.seq (CJ.cut (X := Unit) (fun x h nx => H103_j3 k   h nx) (fun x => []) ?_ ?_)
  · refine CJ.seq ?_
    refine CJ.region ?_
    refine OJ.rd rfl rfl rfl (r_load rfl rfl H) ?_
    intro v5_5 H
    refine OJ.fu rfl rfl rfl (r_call (args := [v5_5]) rfl rfl rfl (And.intro rfl True.intro) Tryz.call100 (sim100 H)) ?_
    intro v6_6 h6 nx6 H
    refine OJ.rd rfl rfl rfl (r_bin rfl rfl rfl H) ?_
    intro v7_7 H
    refine OJ.mv rfl rfl rfl (r_move rfl rfl) ?_
    refine OJ.cut (X := Option Value × Option Value × Option Value × Unit) 3 (fun x h nx => H103_g8 k  v1_1 v2_2 v7_7 x.1 x.2.1 x.2.2.1 h nx) (fun x => [(9, x.1), (10, x.2.1), (11, x.2.2.1), (1, (some v1_1)), (2, (some v2_2)), (8, (some v7_7))]) ?_ (fun next => ?_)
    · intro ⟨o9_9, o10_9, o11_9, _u⟩ h nx H
      refine OJ.rd rfl rfl rfl (r_pick rfl rfl rfl rfl H) ?_
      intro v12_10 H
      refine OJ.fin ?_
      refine CJ.ite rfl H (fun H => ?_) (fun H => ?_)
      · refine CJ.seq ?_
        refine CJ.region ?_
        refine OJ.rd rfl rfl rfl (r_load rfl rfl H) ?_
        intro v13_11 H
        refine OJ.wr rfl rfl (r_store rfl rfl rfl H) ?_
        intro h12 H
        refine OJ.mv rfl rfl rfl (r_assign rfl rfl) ?_
        refine OJ.mv rfl rfl rfl (r_assign rfl rfl) ?_
        refine OJ.fin ?_
        refine CJ.ret1 ?_
        obtain ⟨r13, H, l13⟩ := load_val H
        obtain ⟨n14, H⟩ := hNT_true H
        obtain ⟨n15, H⟩ := hNT_true H
        exact ret_gen (vs := [r13, (.int .i64 (.ofNat 0)), (.bool false)]) (Or.inr rfl) (And.intro (Exists.intro v2_2 (And.intro rfl l13)) (And.intro rfl (And.intro n14 (And.intro rfl (And.intro n15 True.intro))))) H
      · cases H
    · rcases hG_true H with ⟨g, H⟩ | ⟨g, H⟩
      · refine OJ.grd rfl rfl rfl g rfl rfl (r_fieldAddr rfl rfl H) ?_
        intro v9_16 H
        refine OJ.grd rfl rfl rfl g rfl rfl (r_load rfl rfl H) ?_
        intro v10_17 H
        refine OJ.grd rfl rfl rfl g rfl rfl (r_un rfl rfl H) ?_
        intro v11_18 H
        exact OJ.weaken [(9, (some v9_16)), (10, (some v10_17)), (11, (some v11_18)), (1, (some v1_1)), (2, (some v2_2)), (8, (some v7_7))] (And.intro rfl (And.intro rfl (And.intro rfl (And.intro rfl (And.intro rfl (And.intro rfl True.intro)))))) (next ((some v9_16), (some v10_17), (some v11_18), ()) _ _ H)
      · refine OJ.no rfl rfl rfl g rfl rfl ?_
        refine OJ.no rfl rfl rfl g rfl rfl ?_
        refine OJ.no rfl rfl rfl g rfl rfl ?_
        exact OJ.weaken [(9, none), (10, none), (11, none), (1, (some v1_1)), (2, (some v2_2)), (8, (some v7_7))] (And.intro rfl (And.intro rfl (And.intro rfl (And.intro rfl (And.intro rfl (And.intro rfl True.intro)))))) (next (none, none, none, ()) _ _ H)
  · intro _u h nx H
    cases H

/-! 63 -/
noncomputable def H63_j32 (k : KV)  (a2_33 : Value) (a3_33 : Value) (a4_33 : Value) (h : Heap) (nx : Nat) : Bool :=
  loadK Tryz.prog 55 a2_33 h fun r34 => loadK Tryz.prog 75 a3_33 h fun r35 => hNT a4_33 fun _ => k (resV [r34, r35, a4_33]) h nx
noncomputable def H63_j30 (k : KV)  (a1_31 : Value) (a2_31 : Value) (a3_31 : Value) (a9_31 : Value) (h : Heap) (nx : Nat) : Bool :=
  loadK Tryz.prog 55 a1_31 h fun v53_38 =>
  loadK Tryz.prog 75 a9_31 h fun v54_39 =>
  storeK Tryz.prog 55 a2_31 v53_38 h fun h40 =>
  loadK Tryz.prog 75 a9_31 h40 fun v54_42 =>
  hEq v54_42 v54_39 fun _ => storeK Tryz.prog 75 a3_31 v54_39 h40 fun h43 =>
  H63_j32 k  a2_31 a3_31 (.int .i64 (.ofNat 0)) h43 nx
noncomputable def H63_j4 (k : KV)  (a1_5 : Value) (a2_5 : Value) (a3_5 : Value) (h : Heap) (nx : Nat) : Bool :=
  hFieldAddr Tryz.prog 55 a1_5 1 fun v21_6 =>
  loadK Tryz.prog 51 v21_6 h fun v22_7 =>
  H102 v22_7 h nx fun v23_8 h8 nx8 =>
  hExtract v23_8 0 fun v24_9 =>
  hExtract v23_8 1 fun v25_10 =>
  hExtract v23_8 2 fun v26_11 =>
  hAlloc Tryz.prog 51 h8 nx8 fun v6_12 h12 nx12 =>
  storeK Tryz.prog 51 v6_12 v24_9 h12 fun h13 =>
  loadK Tryz.prog 51 v6_12 h13 fun v27_14 =>
  hFieldAddr Tryz.prog 55 a1_5 1 fun v28_15 =>
  storeK Tryz.prog 51 v28_15 v27_14 h13 fun h16 =>
  loadK Tryz.prog 55 a1_5 h16 fun v29_17 =>
  H81 v29_17 v25_10 h16 nx12 fun v31_18 h18 nx18 =>
  hBuild Tryz.prog 75 [(0, v31_18)] fun v32_19 =>
  hAlloc Tryz.prog 75 h18 nx18 fun v9_20 h20 nx20 =>
  storeK Tryz.prog 75 v9_20 v32_19 h20 fun h21 =>
  hFieldAddr Tryz.prog 55 a1_5 2 fun v34_22 =>
  loadK Tryz.prog 53 v34_22 h21 fun v35_23 =>
  H103 v35_23 h21 nx20 fun v36_24 h24 nx24 =>
  hExtract v36_24 0 fun v37_25 =>
  hExtract v36_24 1 fun v38_26 =>
  hExtract v36_24 2 fun v39_27 =>
  hAlloc Tryz.prog 53 h24 nx24 fun v10_28 h28 nx28 =>
  storeK Tryz.prog 53 v10_28 v37_25 h28 fun h29 =>
  loadK Tryz.prog 53 v10_28 h29 fun v40_44 =>
  hFieldAddr Tryz.prog 55 a1_5 2 fun v41_45 =>
  storeK Tryz.prog 53 v41_45 v40_44 h29 fun h46 =>
  hIf v39_27 (fun _ => false) (fun _ => H63_j30 k  a1_5 a2_5 a3_5 v9_20 h46 nx28)
noncomputable def H63 (a0 : Value) (h : Heap) (nx : Nat) (k : KV) : Bool :=
  hBox a0 h nx fun v1_1 h1 nx1 =>
  hAlloc Tryz.prog 55 h1 nx1 fun v2_2 h2 nx2 =>
  hAlloc Tryz.prog 75 h2 nx2 fun v3_3 h3 nx3 =>
  loadK Tryz.prog 55 v1_1 h3 fun v13_47 =>
  H59 v13_47 h3 nx3 fun v14_48 h48 nx48 =>
  binK Tryz.prog .neq 44 (.tmp 15) (.const (.int .i64 (.ofNat 0))) v14_48 (.int .i64 (.ofNat 0)) fun v16_49 =>
  hIf v16_49 (fun _ => false) (fun _ => H63_j4 k  v1_1 v2_2 v3_3 h48 nx48)
theorem sim63 {a0 : Value} {h : Heap} {nx : Nat} {k : KV} (H : H63 a0 h nx k = true) : ∃ v h' nx', k v h' nx' = true ∧ CallSim Tryz.prog 63 [a0] h nx v h' nx' := by
  refine fn_rule Tryz.func63 rfl rfl ?_
  refine CJ.seq ?_
  refine CJ.region ?_
  refine OJ.fu rfl rfl rfl (r_box rfl rfl H) ?_
  intro v1_1 h1 nx1 H
  refine OJ.fu rfl rfl rfl (r_alloc1 rfl H) ?_
  intro v2_2 h2 nx2 H
  refine OJ.fu rfl rfl rfl (r_alloc1 rfl H) ?_
  intro v3_3 h3 nx3 H
  refine OJ.mv rfl rfl rfl (r_assign rfl rfl) ?_
  refine OJ.fin ?_
  refine CJ.seq (CJ.cut (X := Value × Value × Value × Unit) (fun x h nx => H63_j4 k  x.1 x.2.1 x.2.2.1 h nx) (fun x => [(1, some x.1), (2, some x.2.1), (3, some x.2.2.1)]) ?_ ?_)
  · refine CJ.seq ?_
    refine CJ.region ?_
    refine OJ.rd rfl rfl rfl (r_load rfl rfl H) ?_
    intro v13_47 H
    refine OJ.fu rfl rfl rfl (r_call (args := [v13_47]) rfl rfl rfl (And.intro rfl True.intro) Tryz.call59 (sim59 H)) ?_
    intro v14_48 h48 nx48 H
    refine OJ.mv rfl rfl rfl (r_assign rfl rfl) ?_
    refine OJ.fin ?_
    refine CJ.seq ?_
    refine CJ.region ?_
    refine OJ.mv rfl rfl rfl (r_move rfl rfl) ?_
    refine OJ.rd rfl rfl rfl (r_bin rfl rfl rfl H) ?_
    intro v16_49 H
    refine OJ.fin ?_
    refine CJ.ite rfl H (fun H => ?_) (fun H => ?_)
    · cases H
    · exact CJ.skip [(1, (some v1_1)), (2, (some v2_2)), (3, (some v3_3))] (And.intro rfl (And.intro rfl (And.intro rfl True.intro))) (Exists.intro (v1_1, v2_2, v3_3, ()) (And.intro rfl H))
  · intro ⟨a1_5, a2_5, a3_5, _u⟩ h nx H
    refine CJ.seq ?_
    refine CJ.region ?_
    refine OJ.rd rfl rfl rfl (r_fieldAddr rfl rfl H) ?_
    intro v21_6 H
    refine OJ.rd rfl rfl rfl (r_load rfl rfl H) ?_
    intro v22_7 H
    refine OJ.fu rfl rfl rfl (r_call (args := [v22_7]) rfl rfl rfl (And.intro rfl True.intro) Tryz.call102 (sim102 H)) ?_
    intro v23_8 h8 nx8 H
    refine OJ.mv rfl rfl rfl (r_move rfl rfl) ?_
    refine OJ.rd rfl rfl rfl (r_extract rfl rfl H) ?_
    intro v24_9 H
    refine OJ.rd rfl rfl rfl (r_extract rfl rfl H) ?_
    intro v25_10 H
    refine OJ.rd rfl rfl rfl (r_extract rfl rfl H) ?_
    intro v26_11 H
    refine OJ.fu rfl rfl rfl (r_alloc1 rfl H) ?_
    intro v6_12 h12 nx12 H
    refine OJ.wr rfl rfl (r_store rfl rfl rfl H) ?_
    intro h13 H
    refine OJ.mv rfl rfl rfl (r_assign rfl rfl) ?_
    refine OJ.mv rfl rfl rfl (r_assign rfl rfl) ?_
    refine OJ.fin ?_
    refine CJ.seq ?_
    refine CJ.region ?_
    refine OJ.rd rfl rfl rfl (r_load rfl rfl H) ?_
    intro v27_14 H
    refine OJ.rd rfl rfl rfl (r_fieldAddr rfl rfl H) ?_
    intro v28_15 H
    refine OJ.wr rfl rfl (r_store rfl rfl rfl H) ?_
    intro h16 H
    refine OJ.fin ?_
    refine CJ.seq ?_
    refine CJ.region ?_
    refine OJ.rd rfl rfl rfl (r_load rfl rfl H) ?_
    intro v29_17 H
    refine OJ.mv rfl rfl rfl (r_move rfl rfl) ?_
    refine OJ.fu rfl rfl rfl (r_call (args := [v29_17, v25_10]) rfl rfl rfl (And.intro rfl (And.intro rfl True.intro)) Tryz.call81 (sim81 H)) ?_
    intro v31_18 h18 nx18 H
    refine OJ.rd rfl rfl rfl (r_build (vs := [(0, v31_18)]) rfl (And.intro rfl (And.intro rfl True.intro)) H) ?_
    intro v32_19 H
    refine OJ.fu rfl rfl rfl (r_alloc1 rfl H) ?_
    intro v9_20 h20 nx20 H
    refine OJ.wr rfl rfl (r_store rfl rfl rfl H) ?_
    intro h21 H
    refine OJ.fin ?_
    refine CJ.seq ?_
    refine CJ.region ?_
    refine OJ.rd rfl rfl rfl (r_fieldAddr rfl rfl H) ?_
    intro v34_22 H
    refine OJ.rd rfl rfl rfl (r_load rfl rfl H) ?_
    intro v35_23 H
    refine OJ.fu rfl rfl rfl (r_call (args := [v35_23]) rfl rfl rfl (And.intro rfl True.intro) Tryz.call103 (sim103 H)) ?_
    intro v36_24 h24 nx24 H
    refine OJ.mv rfl rfl rfl (r_move rfl rfl) ?_
    refine OJ.rd rfl rfl rfl (r_extract rfl rfl H) ?_
    intro v37_25 H
    refine OJ.rd rfl rfl rfl (r_extract rfl rfl H) ?_
    intro v38_26 H
    refine OJ.rd rfl rfl rfl (r_extract rfl rfl H) ?_
    intro v39_27 H
    refine OJ.fu rfl rfl rfl (r_alloc1 rfl H) ?_
    intro v10_28 h28 nx28 H
    refine OJ.wr rfl rfl (r_store rfl rfl rfl H) ?_
    intro h29 H
    refine OJ.mv rfl rfl rfl (r_assign rfl rfl) ?_
    refine OJ.mv rfl rfl rfl (r_assign rfl rfl) ?_
    refine OJ.fin ?_
    refine CJ.seq (CJ.cut (X := Value × Value × Value × Value × Unit) (fun x h nx => H63_j30 k  x.1 x.2.1 x.2.2.1 x.2.2.2.1 h nx) (fun x => [(1, some x.1), (2, some x.2.1), (3, some x.2.2.1), (9, some x.2.2.2.1)]) ?_ ?_)
    · refine CJ.seq ?_
      refine CJ.region ?_
      refine OJ.rd rfl rfl rfl (r_load rfl rfl H) ?_
      intro v40_44 H
      refine OJ.rd rfl rfl rfl (r_fieldAddr rfl rfl H) ?_
      intro v41_45 H
      refine OJ.wr rfl rfl (r_store rfl rfl rfl H) ?_
      intro h46 H
      refine OJ.fin ?_
      refine CJ.seq ?_
      refine CJ.region ?_
      refine OJ.mv rfl rfl rfl (r_move rfl rfl) ?_
      refine OJ.fin ?_
      refine CJ.ite rfl H (fun H => ?_) (fun H => ?_)
      · cases H
      · exact CJ.skip [(1, (some a1_5)), (2, (some a2_5)), (3, (some a3_5)), (9, (some v9_20))] (And.intro rfl (And.intro rfl (And.intro rfl (And.intro rfl True.intro)))) (Exists.intro (a1_5, a2_5, a3_5, v9_20, ()) (And.intro rfl H))
    · intro ⟨a1_31, a2_31, a3_31, a9_31, _u⟩ h nx H
      refine CJ.seq (CJ.cut (X := Value × Value × Value × Unit) (fun x h nx => H63_j32 k  x.1 x.2.1 x.2.2.1 h nx) (fun x => [(2, some x.1), (3, some x.2.1), (4, some x.2.2.1)]) ?_ ?_)
      · refine DJ.hm [0, 0, 1, 7, 15] (by decide +kernel) ?_
        intro hm37
        refine DJ.rd 0 [(1, (some a1_31))] h nx (r_load rfl rfl H) ?_
        intro v53_38 H S37_0
        refine DJ.rd 1 [(9, (some a9_31))] h nx (r_load rfl rfl H) ?_
        intro v54_39 H S37_1
        refine DJ.wr 2 [(2, (some a2_31)), (53, (some v53_38))] h nx (r_store rfl rfl rfl H) ?_
        intro h40 H S37_2
        have I37_2 := S37_2.1
        refine DJ.rd 1 [(9, (some a9_31))] h40 nx (r_load rfl rfl H) ?_
        intro v54_42 H Q41
        obtain ⟨q41, H⟩ := hEq_true H
        refine DJ.wr 3 [(3, (some a3_31)), (54, (some v54_39))] h40 nx (r_store rfl rfl rfl H) ?_
        intro h43 H S37_3
        have I37_3 := S37_3.1
        refine DJ.mv 4 [] (a_assign rfl rfl) ?_
        intro S37_4
        exact CJ.draw1 [(some v53_38), (some v54_39), none, none, (some (.int .i64 (.ofNat 0)))] [2, 3] [(h, nx), (h40, nx), (h43, nx)] [] [0, 1, 2, 3, 4] [0, 1, 2, 3, 4] [0, 2, 1, 3, 4] (by decide +kernel) (And.intro (F_read (Ti := [(1, (some a1_31))]) hm37 [(1, none)] (by decide +kernel) (And.intro rfl (And.intro rfl True.intro)) (guard_no rfl) rfl rfl 0 1 (by decide +kernel) (And.intro S37_0 True.intro)) (And.intro (F_read (Ti := [(9, (some a9_31))]) hm37 [(9, none)] (by decide +kernel) (And.intro rfl (And.intro rfl True.intro)) (guard_no rfl) rfl rfl 0 2 (by decide +kernel) (And.intro S37_1 (And.intro (opR_eq q41 Q41) True.intro))) (And.intro (F_eff (Ti := [(2, (some a2_31)), (53, (some v53_38))]) hm37 [(2, none), (53, some 0)] (by decide +kernel) (And.intro rfl (And.intro rfl (And.intro rfl (And.intro rfl True.intro)))) (guard_no rfl) rfl 0 rfl (by decide +kernel) S37_2 (Grow.refl _ _) (show nx ≤ nx by omega) True.intro) (And.intro (F_eff (Ti := [(3, (some a3_31)), (54, (some v54_39))]) hm37 [(3, none), (54, some 1)] (by decide +kernel) (And.intro rfl (And.intro rfl (And.intro rfl (And.intro rfl True.intro)))) (guard_no rfl) rfl 1 rfl (by decide +kernel) S37_3 (Grow.refl _ _) (show nx ≤ nx by omega) True.intro) (And.intro (F_any (Ti := []) hm37 [] (by decide +kernel) True.intro (guard_no rfl) rfl rfl S37_4) True.intro))))) rfl (And.intro (by omega) (And.intro (by omega) (And.intro (by omega) True.intro))) True.intro (Grow.refl _ _) [(2, none), (3, none), (4, some 4)] [(2, (some a2_31)), (3, (some a3_31)), (4, (some (.int .i64 (.ofNat 0))))] (by decide +kernel) (And.intro rfl (And.intro rfl (And.intro rfl (And.intro rfl (And.intro rfl (And.intro rfl True.intro)))))) rfl (Exists.intro (a2_31, a3_31, (.int .i64 (.ofNat 0)), ()) (And.intro rfl H))
      · intro ⟨a2_33, a3_33, a4_33, _u⟩ h nx H
        refine CJ.ret1 ?_
        obtain ⟨r34, H, l34⟩ := load_val H
        obtain ⟨r35, H, l35⟩ := load_val H
        obtain ⟨n36, H⟩ := hNT_true H
        exact ret_gen (vs := [r34, r35, a4_33]) (Or.inr rfl) (And.intro (Exists.intro a2_33 (And.intro rfl l34)) (And.intro (Exists.intro a3_33 (And.intro rfl l35)) (And.intro rfl (And.intro n36 True.intro)))) H

/-! 37 -/
noncomputable def H37_j19 (k : KV)  (a2_20 : Value) (a3_20 : Value) (a4_20 : Value) (h : Heap) (nx : Nat) : Bool :=
  loadK Tryz.prog 59 a2_20 h fun r21 => loadK Tryz.prog 75 a3_20 h fun r22 => hNT a4_20 fun _ => k (resV [r21, r22, a4_20]) h nx
noncomputable def H37_j4 (k : KV)  (a1_5 : Value) (a2_5 : Value) (a3_5 : Value) (h : Heap) (nx : Nat) : Bool :=
  hFieldAddr Tryz.prog 59 a1_5 2 fun v17_6 =>
  loadK Tryz.prog 55 v17_6 h fun v18_7 =>
  H63 v18_7 h nx fun v19_8 h8 nx8 =>
  hExtract v19_8 0 fun v20_9 =>
  hExtract v19_8 1 fun v21_10 =>
  hExtract v19_8 2 fun v22_11 =>
  hAlloc Tryz.prog 55 h8 nx8 fun v6_12 h12 nx12 =>
  hAlloc Tryz.prog 75 h12 nx12 fun v7_13 h13 nx13 =>
  storeK Tryz.prog 55 v6_12 v20_9 h13 fun h14 =>
  storeK Tryz.prog 75 v7_13 v21_10 h14 fun h15 =>
  loadK Tryz.prog 55 v6_12 h15 fun v23_16 =>
  hFieldAddr Tryz.prog 59 a1_5 2 fun v24_17 =>
  storeK Tryz.prog 55 v24_17 v23_16 h15 fun h18 =>
  loadK Tryz.prog 59 a1_5 h18 fun v25_25 =>
  loadK Tryz.prog 75 v7_13 h18 fun v26_26 =>
  storeK Tryz.prog 59 a2_5 v25_25 h18 fun h27 =>
  loadK Tryz.prog 75 v7_13 h27 fun v26_29 =>
  hEq v26_29 v26_26 fun _ => storeK Tryz.prog 75 a3_5 v26_26 h27 fun h30 =>
  H37_j19 k  a2_5 a3_5 (.int .i64 (.ofNat 0)) h30 nx13
noncomputable def H37 (a0 : Value) (h : Heap) (nx : Nat) (k : KV) : Bool :=
  hBox a0 h nx fun v1_1 h1 nx1 =>
  hAlloc Tryz.prog 59 h1 nx1 fun v2_2 h2 nx2 =>
  hAlloc Tryz.prog 75 h2 nx2 fun v3_3 h3 nx3 =>
  loadK Tryz.prog 59 v1_1 h3 fun v9_31 =>
  H30 v9_31 h3 nx3 fun v10_32 h32 nx32 =>
  binK Tryz.prog .neq 44 (.tmp 11) (.const (.int .i64 (.ofNat 0))) v10_32 (.int .i64 (.ofNat 0)) fun v12_33 =>
  hIf v12_33 (fun _ => false) (fun _ => H37_j4 k  v1_1 v2_2 v3_3 h32 nx32)
theorem sim37 {a0 : Value} {h : Heap} {nx : Nat} {k : KV} (H : H37 a0 h nx k = true) : ∃ v h' nx', k v h' nx' = true ∧ CallSim Tryz.prog 37 [a0] h nx v h' nx' := by
  refine fn_rule Tryz.func37 rfl rfl ?_
  refine CJ.seq ?_
  refine CJ.region ?_
  refine OJ.fu rfl rfl rfl (r_box rfl rfl H) ?_
  intro v1_1 h1 nx1 H
  refine OJ.fu rfl rfl rfl (r_alloc1 rfl H) ?_
  intro v2_2 h2 nx2 H
  refine OJ.fu rfl rfl rfl (r_alloc1 rfl H) ?_
  intro v3_3 h3 nx3 H
  refine OJ.mv rfl rfl rfl (r_assign rfl rfl) ?_
  refine OJ.fin ?_
  refine CJ.seq (CJ.cut (X := Value × Value × Value × Unit) (fun x h nx => H37_j4 k  x.1 x.2.1 x.2.2.1 h nx) (fun x => [(1, some x.1), (2, some x.2.1), (3, some x.2.2.1)]) ?_ ?_)
  · refine CJ.seq ?_
    refine CJ.region ?_
    refine OJ.rd rfl rfl rfl (r_load rfl rfl H) ?_
    intro v9_31 H
    refine OJ.fu rfl rfl rfl (r_call (args := [v9_31]) rfl rfl rfl (And.intro rfl True.intro) Tryz.call30 (sim30 H)) ?_
    intro v10_32 h32 nx32 H
    refine OJ.mv rfl rfl rfl (r_assign rfl rfl) ?_
    refine OJ.fin ?_
    refine CJ.seq ?_
    refine CJ.region ?_
    refine OJ.mv rfl rfl rfl (r_move rfl rfl) ?_
    refine OJ.rd rfl rfl rfl (r_bin rfl rfl rfl H) ?_
    intro v12_33 H
    refine OJ.fin ?_
    refine CJ.ite rfl H (fun H => ?_) (fun H => ?_)
    · cases H
    · exact CJ.skip [(1, (some v1_1)), (2, (some v2_2)), (3, (some v3_3))] (And.intro rfl (And.intro rfl (And.intro rfl True.intro))) (Exists.intro (v1_1, v2_2, v3_3, ()) (And.intro rfl H))
  · intro ⟨a1_5, a2_5, a3_5, _u⟩ h nx H
    refine CJ.seq ?_
    refine CJ.region ?_
    refine OJ.rd rfl rfl rfl (r_fieldAddr rfl rfl H) ?_
    intro v17_6 H
    refine OJ.rd rfl rfl rfl (r_load rfl rfl H) ?_
    intro v18_7 H
    refine OJ.fu rfl rfl rfl (r_call (args := [v18_7]) rfl rfl rfl (And.intro rfl True.intro) Tryz.call63 (sim63 H)) ?_
    intro v19_8 h8 nx8 H
    refine OJ.mv rfl rfl rfl (r_move rfl rfl) ?_
    refine OJ.rd rfl rfl rfl (r_extract rfl rfl H) ?_
    intro v20_9 H
    refine OJ.rd rfl rfl rfl (r_extract rfl rfl H) ?_
    intro v21_10 H
    refine OJ.rd rfl rfl rfl (r_extract rfl rfl H) ?_
    intro v22_11 H
    refine OJ.fu rfl rfl rfl (r_alloc1 rfl H) ?_
    intro v6_12 h12 nx12 H
    refine OJ.fu rfl rfl rfl (r_alloc1 rfl H) ?_
    intro v7_13 h13 nx13 H
    refine OJ.wr rfl rfl (r_store rfl rfl rfl H) ?_
    intro h14 H
    refine OJ.wr rfl rfl (r_store rfl rfl rfl H) ?_
    intro h15 H
    refine OJ.mv rfl rfl rfl (r_assign rfl rfl) ?_
    refine OJ.fin ?_
    refine CJ.seq ?_
    refine CJ.region ?_
    refine OJ.rd rfl rfl rfl (r_load rfl rfl H) ?_
    intro v23_16 H
    refine OJ.rd rfl rfl rfl (r_fieldAddr rfl rfl H) ?_
    intro v24_17 H
    refine OJ.wr rfl rfl (r_store rfl rfl rfl H) ?_
    intro h18 H
    refine OJ.fin ?_
    refine CJ.seq (CJ.cut (X := Value × Value × Value × Unit) (fun x h nx => H37_j19 k  x.1 x.2.1 x.2.2.1 h nx) (fun x => [(2, some x.1), (3, some x.2.1), (4, some x.2.2.1)]) ?_ ?_)
    · refine DJ.hm [0, 0, 1, 7, 15] (by decide +kernel) ?_
      intro hm24
      refine DJ.rd 0 [(1, (some a1_5))] h18 nx13 (r_load rfl rfl H) ?_
      intro v25_25 H S24_0
      refine DJ.rd 1 [(7, (some v7_13))] h18 nx13 (r_load rfl rfl H) ?_
      intro v26_26 H S24_1
      refine DJ.wr 2 [(2, (some a2_5)), (25, (some v25_25))] h18 nx13 (r_store rfl rfl rfl H) ?_
      intro h27 H S24_2
      have I24_2 := S24_2.1
      refine DJ.rd 1 [(7, (some v7_13))] h27 nx13 (r_load rfl rfl H) ?_
      intro v26_29 H Q28
      obtain ⟨q28, H⟩ := hEq_true H
      refine DJ.wr 3 [(3, (some a3_5)), (26, (some v26_26))] h27 nx13 (r_store rfl rfl rfl H) ?_
      intro h30 H S24_3
      have I24_3 := S24_3.1
      refine DJ.mv 4 [] (a_assign rfl rfl) ?_
      intro S24_4
      exact CJ.draw1 [(some v25_25), (some v26_26), none, none, (some (.int .i64 (.ofNat 0)))] [2, 3] [(h18, nx13), (h27, nx13), (h30, nx13)] [] [0, 1, 2, 3, 4] [0, 1, 2, 3, 4] [0, 2, 1, 3, 4] (by decide +kernel) (And.intro (F_read (Ti := [(1, (some a1_5))]) hm24 [(1, none)] (by decide +kernel) (And.intro rfl (And.intro rfl True.intro)) (guard_no rfl) rfl rfl 0 1 (by decide +kernel) (And.intro S24_0 True.intro)) (And.intro (F_read (Ti := [(7, (some v7_13))]) hm24 [(7, none)] (by decide +kernel) (And.intro rfl (And.intro rfl True.intro)) (guard_no rfl) rfl rfl 0 2 (by decide +kernel) (And.intro S24_1 (And.intro (opR_eq q28 Q28) True.intro))) (And.intro (F_eff (Ti := [(2, (some a2_5)), (25, (some v25_25))]) hm24 [(2, none), (25, some 0)] (by decide +kernel) (And.intro rfl (And.intro rfl (And.intro rfl (And.intro rfl True.intro)))) (guard_no rfl) rfl 0 rfl (by decide +kernel) S24_2 (Grow.refl _ _) (show nx13 ≤ nx13 by omega) True.intro) (And.intro (F_eff (Ti := [(3, (some a3_5)), (26, (some v26_26))]) hm24 [(3, none), (26, some 1)] (by decide +kernel) (And.intro rfl (And.intro rfl (And.intro rfl (And.intro rfl True.intro)))) (guard_no rfl) rfl 1 rfl (by decide +kernel) S24_3 (Grow.refl _ _) (show nx13 ≤ nx13 by omega) True.intro) (And.intro (F_any (Ti := []) hm24 [] (by decide +kernel) True.intro (guard_no rfl) rfl rfl S24_4) True.intro))))) rfl (And.intro (by omega) (And.intro (by omega) (And.intro (by omega) True.intro))) True.intro (Grow.refl _ _) [(2, none), (3, none), (4, some 4)] [(2, (some a2_5)), (3, (some a3_5)), (4, (some (.int .i64 (.ofNat 0))))] (by decide +kernel) (And.intro rfl (And.intro rfl (And.intro rfl (And.intro rfl (And.intro rfl (And.intro rfl True.intro)))))) rfl (Exists.intro (a2_5, a3_5, (.int .i64 (.ofNat 0)), ()) (And.intro rfl H))
    · intro ⟨a2_20, a3_20, a4_20, _u⟩ h nx H
      refine CJ.ret1 ?_
      obtain ⟨r21, H, l21⟩ := load_val H
      obtain ⟨r22, H, l22⟩ := load_val H
      obtain ⟨n23, H⟩ := hNT_true H
      exact ret_gen (vs := [r21, r22, a4_20]) (Or.inr rfl) (And.intro (Exists.intro a2_20 (And.intro rfl l21)) (And.intro (Exists.intro a3_20 (And.intro rfl l22)) (And.intro rfl (And.intro n23 True.intro)))) H

end Go.Proofs
