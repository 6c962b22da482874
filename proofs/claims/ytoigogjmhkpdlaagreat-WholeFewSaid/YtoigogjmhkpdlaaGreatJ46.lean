/- A part of the proof of WholeFew: the texts FewFacts. -/
import Derived.JoinedOf
import Derived.KernelRfl
import Derived.Test.YtoigogjmhkpdlaaGreatRows
namespace Go.Proofs.YtoigogjmhkpdlaaGreat.wholeFew
noncomputable abbrev P0 : Program := Tryz.prog
noncomputable abbrev c0 : OpenClaim := Rows.wholeFewRow
noncomputable abbrev s0 : ChangeSpec := Rows.wholeFewSpec
noncomputable abbrev n0 : FuncId := 3
noncomputable abbrev g0 : Func := Tryz.f3
theorem k0 : (c0.wf (OpenSpec.ofChange s0)) = true := by kernel_rfl
theorem k1 : (laidOutB P0) = true := by kernel_rfl
theorem k2 : (mapsRowed P0) = true := by kernel_rfl
theorem k3 : (g0.params.all (P0.readableRec ·)) = true := by kernel_rfl
theorem k4 : (namedTie P0 c0.named s0.vars) = true := by kernel_rfl
theorem k5 : ((c0.stops == [])) = true := by kernel_rfl
theorem k6 : ((P0.stops == [])) = true := by kernel_rfl
theorem k7 : ((c0.knobs == [])) = true := by kernel_rfl
theorem k8 : ((P0.stopKnobs == [])) = true := by kernel_rfl
theorem k9 : ((c0.inPlace == P0.inPlace n0)) = true := by kernel_rfl
theorem k10 : ((c0.unfollowed == P0.unfollowed n0)) = true := by kernel_rfl
theorem k11 : ((c0.recurses == P0.recurses n0)) = true := by kernel_rfl
theorem k12 : ((c0.named == P0.varsNamed n0)) = true := by kernel_rfl
theorem k13 : ((c0.maps == (g0.params.toList ++ s0.plain.varTypes P0).any (P0.mapsRec ·))) = true := by kernel_rfl
theorem k14 : ((c0.ifaces == (g0.params.toList ++ s0.plain.varTypes P0).any (P0.ifacesRec ·))) = true := by kernel_rfl
theorem k15 : ((c0.mapsOut == P0.mapsAmong g0.resultTypes.toList)) = true := by kernel_rfl
theorem k16 : ((c0.loops == (g0.params.toList ++ s0.plain.varTypes P0).any (P0.loopsFrom ·))) = true := by kernel_rfl
theorem k17 : ((c0.wideKeys == (g0.params.toList ++ s0.plain.varTypes P0 ++ g0.resultTypes.toList).any (P0.wideKeysFrom ·))) = true := by kernel_rfl
theorem k18 : (s0.vars.all (P0.varReadable ·)) = true := by kernel_rfl
theorem k19 : (g0.resultTypes.all (fun t => P0.readableRec t && decide (t < P0.types.size))) = true := by kernel_rfl
theorem k20 : ((c0.ifacesOut == g0.resultTypes.toList.any (P0.ifacesRec ·))) = true := by kernel_rfl
theorem k21 : ((c0.loopsOut == g0.resultTypes.toList.any (P0.loopsFrom ·))) = true := by kernel_rfl
theorem k22 : ((c0.plainKeys == P0.plainKeys)) = true := by kernel_rfl
theorem k23 : (c0.shortTexts.isNone) = true := by kernel_rfl
theorem k24 : (P0.stopsHeard) = true := by kernel_rfl
theorem k25 : (P0.mayEnter) = true := by kernel_rfl
theorem k26 : ((c0.lifted == P0.liftsFinal)) = true := by kernel_rfl
theorem k27 : ((P0.make == some c0.make)) = true := by kernel_rfl
theorem k29 : ((c0.pinned == c0.pinnedBy)) = true := by kernel_rfl
theorem k30 : ((c0.veiled == (g0.params.toList ++ s0.plain.varTypes P0 ++ g0.resultTypes.toList).any (P0.veiledRec ·))) = true := by kernel_rfl
theorem k31 : (c0.veiledFits P0 g0.params.toList (g0.params.toList ++ s0.plain.varTypes P0 ++ g0.resultTypes.toList)) = true := by kernel_rfl
theorem closed0 : joinedFacts P0 n0 g0 s0 c0 = true := by
  unfold joinedFacts
  simp only [k0, k1, k2, k3, k4, k5, k6, k7, k8, k9, k10, k11, k12, k13, k14, k15, k16, k17, k18, k19, k20, k21, k22, k23, k24, k25, k26, k27, k29, k30, k31, Bool.and_self, Bool.and_true, Bool.true_and]
  kernel_rfl
end Go.Proofs.YtoigogjmhkpdlaaGreat.wholeFew
