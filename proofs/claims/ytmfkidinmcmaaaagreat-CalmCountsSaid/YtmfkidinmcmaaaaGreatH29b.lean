import Derived.Test.YtmfkidinmcmaaaaGreatK29
import Derived.KernelRfl
import Derived.Test.YtmfkidinmcmaaaaGreatProg
set_option linter.unusedVariables false
set_option maxRecDepth 8000
namespace Go.Proofs
open Go.AM
attribute [local irreducible] loadK storeK hNil binK hUn hConv hFieldAddr hField hIndexAddr hIndex hExtract hAlloc hBox hMakeMap hMakeFunc hMakeSlice lenK capK hAppend hCopy hMin hMax hSlice hBuild hBuildSlice hLookup hMapUpdate hClear hNT hIs hL0 hLc hFn optK hPick hIf hG hRet appendK copyK gAdd gSub gMul gLss gLeq gGtr gGeq gEql gNeq gShl gShr gAnd gOr gXor gQuo gRem gConv gNot fLoad1 fLoadA fStore1 fFieldAddr fIndexAddr fLen
/-! 16 -/
noncomputable def H16g17 (k : KV) (a1 : Value) (a2 : Value) (a3 : Value) (v16 : Value) (o18 : Option Value) : F0 := fun h n=>hPick v16 (some (.bool true)) o18 fun v19=>hIf v19 (fun _=>k (I 0) h n) (fun _=>gAdd (I 100) a3 fun v20=>gAdd a1 (I 2) fun v21=>gMul (I 16) v21 fun v22=>gAdd a1 a2 fun v23=>gAdd v23 (I 2) fun v24=>gMul v22 v24 fun v25=>gAdd v20 v25 fun v26=>k v26 h n)
noncomputable def H16g14 (k : KV) (a1 : Value) (a2 : Value) (a3 : Value) (v13 : Value) (o15 : Option Value) : F0 := fun h n=>hPick v13 (some (.bool true)) o15 fun v16=>hG (some v16) false (fun _=>gGtr a3 (I 1000000) fun v27=>H16g17 k a1 a2 a3 v16 (some v27) h n) (fun _=>H16g17 k a1 a2 a3 v16 none h n)
noncomputable def H16g11 (k : KV) (a1 : Value) (a2 : Value) (a3 : Value) (v10 : Value) (o12 : Option Value) : F0 := fun h n=>hPick v10 (some (.bool true)) o12 fun v13=>hG (some v13) false (fun _=>gLss a3 (I 0) fun v28=>H16g14 k a1 a2 a3 v13 (some v28) h n) (fun _=>H16g14 k a1 a2 a3 v13 none h n)
noncomputable def H16g8 (k : KV) (a1 : Value) (a2 : Value) (a3 : Value) (v7 : Value) (o9 : Option Value) : F0 := fun h n=>hPick v7 (some (.bool true)) o9 fun v10=>hG (some v10) false (fun _=>gGtr a2 (I 120) fun v29=>H16g11 k a1 a2 a3 v10 (some v29) h n) (fun _=>H16g11 k a1 a2 a3 v10 none h n)
noncomputable def H16g5 (k : KV) (a1 : Value) (a2 : Value) (a3 : Value) (v4 : Value) (o6 : Option Value) : F0 := fun h n=>hPick v4 (some (.bool true)) o6 fun v7=>hG (some v7) false (fun _=>gLss a2 (I 0) fun v30=>H16g8 k a1 a2 a3 v7 (some v30) h n) (fun _=>H16g8 k a1 a2 a3 v7 none h n)
noncomputable def H16 (a1 a2 a3 : Value) : HF := fun h n k=>gLss a1 (I 0) fun v4=>hG (some v4) false (fun _=>gGtr a1 (I 16) fun v31=>H16g5 k a1 a2 a3 v4 (some v31) h n) (fun _=>H16g5 k a1 a2 a3 v4 none h n)
theorem sim16 {a1 a2 a3 h n k} (H : H16 a1 a2 a3 h n k = true) : SimR p 16 [a1, a2, a3] h n k := by
 refine fn_rule Tryz.func16 rfl rfl ?_;refine cSR ?_;refine oAs rfl ?_;refine zO ?_;refine cS ?_;refine cSR ?_;refine oMv rfl ?_;refine oLss H fun v4 H=>?_;refine oMv rfl ?_;refine OJ.cut (X := Option Value × Unit) 2 (fun x h n=>H16g5 k a1 a2 a3 v4 x.1 h n) (fun x=>[(11, x.1), (0, (some a1)), (1, (some a2)), (2, (some a3)), (9, (some v4))]) (fun ⟨o6, _⟩ h n H=>?_) fun next=>?_
 · refine oPk H fun v7 H=>?_;refine oMv rfl ?_;refine OJ.cut (X := Option Value × Unit) 2 (fun x h n=>H16g8 k a1 a2 a3 v7 x.1 h n) (fun x=>[(15, x.1), (0, (some a1)), (1, (some a2)), (2, (some a3)), (13, (some v7))]) (fun ⟨o9, _⟩ h n H=>?_) fun next=>?_
   · refine oPk H fun v10 H=>?_;refine oMv rfl ?_;refine OJ.cut (X := Option Value × Unit) 2 (fun x h n=>H16g11 k a1 a2 a3 v10 x.1 h n) (fun x=>[(19, x.1), (0, (some a1)), (1, (some a2)), (2, (some a3)), (17, (some v10))]) (fun ⟨o12, _⟩ h n H=>?_) fun next=>?_
     · refine oPk H fun v13 H=>?_;refine oMv rfl ?_;refine OJ.cut (X := Option Value × Unit) 2 (fun x h n=>H16g14 k a1 a2 a3 v13 x.1 h n) (fun x=>[(23, x.1), (0, (some a1)), (1, (some a2)), (2, (some a3)), (21, (some v13))]) (fun ⟨o15, _⟩ h n H=>?_) fun next=>?_
       · refine oPk H fun v16 H=>?_;refine oMv rfl ?_;refine OJ.cut (X := Option Value × Unit) 2 (fun x h n=>H16g17 k a1 a2 a3 v16 x.1 h n) (fun x=>[(27, x.1), (0, (some a1)), (1, (some a2)), (2, (some a3)), (25, (some v16))]) (fun ⟨o18, _⟩ h n H=>?_) fun next=>?_
         · refine oPk H fun v19 H=>?_;refine zO ?_;refine cI rfl H (fun H=>?_) fun H=>?_
           · refine cSR ?_;refine oAs rfl ?_;refine zO ?_;refine zT ?_;exact rR rfl rfl H
           · refine zS ?_;refine cSR ?_;refine oMv rfl ?_;refine oAdd H fun v20 H=>?_;refine oMv rfl ?_;refine oAdd H fun v21 H=>?_;refine oMul H fun v22 H=>?_;refine oMv rfl ?_;refine oMv rfl ?_;refine oAdd H fun v23 H=>?_;refine oAdd H fun v24 H=>?_;refine oMul H fun v25 H=>?_;refine oAdd H fun v26 H=>?_;refine oAs rfl ?_;refine zO ?_;refine zT ?_;exact rR rfl rfl H
         · rcases hG_true H with ⟨g, H⟩ | ⟨g, H⟩
           · refine oMv rfl ?_ (hg := gi rfl rfl g);refine oGtr H (fun v27 H=>?_) (hg := gi rfl rfl g);exact jG (next ((some v27), ()) _ _ H) rfl
           · refine gn rfl rfl rfl g ?_;refine gn rfl rfl rfl g ?_;exact jG (next (none, ()) _ _ H) rfl
       · rcases hG_true H with ⟨g, H⟩ | ⟨g, H⟩
         · refine oMv rfl ?_ (hg := gi rfl rfl g);refine oLss H (fun v28 H=>?_) (hg := gi rfl rfl g);exact jG (next ((some v28), ()) _ _ H) rfl
         · refine gn rfl rfl rfl g ?_;refine gn rfl rfl rfl g ?_;exact jG (next (none, ()) _ _ H) rfl
     · rcases hG_true H with ⟨g, H⟩ | ⟨g, H⟩
       · refine oMv rfl ?_ (hg := gi rfl rfl g);refine oGtr H (fun v29 H=>?_) (hg := gi rfl rfl g);exact jG (next ((some v29), ()) _ _ H) rfl
       · refine gn rfl rfl rfl g ?_;refine gn rfl rfl rfl g ?_;exact jG (next (none, ()) _ _ H) rfl
   · rcases hG_true H with ⟨g, H⟩ | ⟨g, H⟩
     · refine oMv rfl ?_ (hg := gi rfl rfl g);refine oLss H (fun v30 H=>?_) (hg := gi rfl rfl g);exact jG (next ((some v30), ()) _ _ H) rfl
     · refine gn rfl rfl rfl g ?_;refine gn rfl rfl rfl g ?_;exact jG (next (none, ()) _ _ H) rfl
 · rcases hG_true H with ⟨g, H⟩ | ⟨g, H⟩
   · refine oMv rfl ?_ (hg := gi rfl rfl g);refine oGtr H (fun v31 H=>?_) (hg := gi rfl rfl g);exact jG (next ((some v31), ()) _ _ H) rfl
   · refine gn rfl rfl rfl g ?_;refine gn rfl rfl rfl g ?_;exact jG (next (none, ()) _ _ H) rfl

/-! 4 -/
noncomputable def H4g24 (k : KV) (v23 : Value) (o25 : Option Value) : F0 := fun h n=>hPick v23 o25 (some (.bool false)) fun v26=>k v26 h n
noncomputable def H4g21 (k : KV) (v20 : Value) (o22 : Option Value) : F0 := fun h n=>hPick v20 o22 (some (.bool false)) fun v23=>hG (some v23) true (fun _=>HA19 h n fun v27 h28 n29=>H4g24 k v23 (some v27) h28 n29) (fun _=>H4g24 k v23 none h n)
noncomputable def H4g18 (k : KV) (v17 : Value) (o19 : Option Value) : F0 := fun h n=>hPick v17 o19 (some (.bool false)) fun v20=>hG (some v20) true (fun _=>H18 (.pointer none) (I 3) h n fun v30 h31 n32=>gNot v30 fun v33=>H4g21 k v20 (some v33) h31 n32) (fun _=>H4g21 k v20 none h n)
noncomputable def H4g15 (k : KV) (v5 : Value) (v14 : Value) (o16 : Option Value) : F0 := fun h n=>hPick v14 o16 (some (.bool false)) fun v17=>hG (some v17) true (fun _=>H17 v5 h n fun v34 h35 n36=>gNot v34 fun v37=>H4g18 k v17 (some v37) h35 n36) (fun _=>H4g18 k v17 none h n)
noncomputable def H4 (a1 a2 a3 : Value) : HF := fun h n k=>hBuild p 31 [] fun v4=>hBox v4 h n fun v5 h6 n7=>H15 a1 a2 a3 h6 n7 fun v8 h9 n10=>H16 a1 a2 a3 h9 n10 fun v11 h12 n13=>gEql v8 v11 fun v14=>hG (some v14) true (fun _=>H17 (.pointer none) h12 n13 fun v38 h39 n40=>gNot v38 fun v41=>H4g15 k v5 v14 (some v41) h39 n40) (fun _=>H4g15 k v5 v14 none h12 n13)
theorem sim4 {a1 a2 a3 h n k} (H : H4 a1 a2 a3 h n k = true) : SimR p 4 [a1, a2, a3] h n k := by
 refine fn_rule Tryz.func4 rfl rfl ?_;refine cSR ?_;refine oAs rfl ?_;refine zR ?_;refine oBd H fun v4 H=>?_;refine oBx H fun v5 h6 n7 H=>?_;refine oAs rfl ?_;refine zR ?_;refine oMv rfl ?_;refine oMv rfl ?_;refine oMv rfl ?_;refine oCa Tryz.call15 (sim15 H) fun v8 h9 n10 H=>?_;refine oMv rfl ?_;refine oMv rfl ?_;refine oMv rfl ?_;refine oCa Tryz.call16 (sim16 H) fun v11 h12 n13 H=>?_;refine oEql H fun v14 H=>?_;refine oMv rfl ?_;refine OJ.cut (X := Option Value × Unit) 2 (fun x h n=>H4g15 k v5 v14 x.1 h n) (fun x=>[(21, x.1), (7, (some v5)), (19, (some v14))]) (fun ⟨o16, _⟩ h n H=>?_) fun next=>?_
 · refine oPk H fun v17 H=>?_;refine oMv rfl ?_;refine OJ.cut (X := Option Value × Unit) 3 (fun x h n=>H4g18 k v17 x.1 h n) (fun x=>[(26, x.1), (23, (some v17))]) (fun ⟨o19, _⟩ h n H=>?_) fun next=>?_
   · refine oPk H fun v20 H=>?_;refine oMv rfl ?_;refine OJ.cut (X := Option Value × Unit) 2 (fun x h n=>H4g21 k v20 x.1 h n) (fun x=>[(30, x.1), (28, (some v20))]) (fun ⟨o22, _⟩ h n H=>?_) fun next=>?_
     · refine oPk H fun v23 H=>?_;refine oMv rfl ?_;refine OJ.cut (X := Option Value × Unit) 1 (fun x h n=>H4g24 k v23 x.1 h n) (fun x=>[(33, x.1), (32, (some v23))]) (fun ⟨o25, _⟩ h n H=>?_) fun next=>?_
       · refine oPk H fun v26 H=>?_;refine oAs rfl ?_;refine zO ?_;refine zT ?_;exact rR rfl rfl H
       · rcases hG_true H with ⟨g, H⟩ | ⟨g, H⟩
         · refine oCa Tryz.call19 (simA19 H) (fun v27 h28 n29 H=>?_) (hg := gi rfl rfl g);exact jG (next ((some v27), ()) _ _ H) rfl
         · refine gn rfl rfl rfl g ?_;exact jG (next (none, ()) _ _ H) rfl
     · rcases hG_true H with ⟨g, H⟩ | ⟨g, H⟩
       · refine oCa Tryz.call18 (sim18 H) (fun v30 h31 n32 H=>?_) (hg := gi rfl rfl g);refine oNot H (fun v33 H=>?_) (hg := gi rfl rfl g);exact jG (next ((some v33), ()) _ _ H) rfl
       · refine gn rfl rfl rfl g ?_;refine gn rfl rfl rfl g ?_;exact jG (next (none, ()) _ _ H) rfl
   · rcases hG_true H with ⟨g, H⟩ | ⟨g, H⟩
     · refine oMv rfl ?_ (hg := gi rfl rfl g);refine oCa Tryz.call17 (sim17 H) (fun v34 h35 n36 H=>?_) (hg := gi rfl rfl g);refine oNot H (fun v37 H=>?_) (hg := gi rfl rfl g);exact jG (next ((some v37), ()) _ _ H) rfl
     · refine gn rfl rfl rfl g ?_;refine gn rfl rfl rfl g ?_;refine gn rfl rfl rfl g ?_;exact jG (next (none, ()) _ _ H) rfl
 · rcases hG_true H with ⟨g, H⟩ | ⟨g, H⟩
   · refine oCa Tryz.call17 (sim17 H) (fun v38 h39 n40 H=>?_) (hg := gi rfl rfl g);refine oNot H (fun v41 H=>?_) (hg := gi rfl rfl g);exact jG (next ((some v41), ()) _ _ H) rfl
   · refine gn rfl rfl rfl g ?_;refine gn rfl rfl rfl g ?_;exact jG (next (none, ()) _ _ H) rfl
end Go.Proofs
