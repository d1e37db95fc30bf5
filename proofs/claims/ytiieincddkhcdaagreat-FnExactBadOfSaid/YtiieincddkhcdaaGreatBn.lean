/- Contracts. -/
import Derived.Test.YtiieincddkhcdaaGreatBm
set_option linter.unusedSimpArgs false
set_option linter.unusedVariables false
namespace Go.Proofs.Tryz
open Go Go.Aix
set_option maxRecDepth 100000
set_option maxHeartbeats 4000000
theorem ent10 : Enters Tryz.prog 10 := ⟨Tryz.f10, Tryz.func10, by kernel_rfl, by kernel_rfl⟩
noncomputable def Y10 (I : Ops) (K : FuncId → En) : CallsA := (Tab.calls [(38, true, callRd I (callE I (K 38) sh38)), (39, true, callRd I (callE I (K 39) sh39)), (40, true, callRd I (callE I (K 40) sh40))])
theorem tY10 {I : Ops} (hI : I = real) {K : FuncId → En} (k38 : K 38 = en38) (k39 : K 39 = en39) (k40 : K 40 = en40) : CallsOk Tryz.prog (Y10 I K) := (TabOk.calls mixed ⟨EntryOk.rd (s38 hI k38) hI, fun _ => callRd_quiet _ _, ⟨EntryOk.rd (s39 hI k39) hI, fun _ => callRd_quiet _ _, ⟨EntryOk.rd (s40 hI k40) hI, fun _ => callRd_quiet _ _, trivial⟩⟩⟩)
theorem s10 {I : Ops} (hI : I = real) {K : FuncId → En} (k38 : K 38 = en38) (k39 : K 39 = en39) (k40 : K 40 = en40) : Sound Tryz.prog 10 (inl X I (Y10 I K) Tryz.f10) :=
  Sound.inl (Y := (Y10 I K)) xok (tY10 hI k38 k39 k40) ent10 Tryz.func10 rfl rfl hI
theorem ent12 : Enters Tryz.prog 12 := ⟨Tryz.f12, Tryz.func12, by kernel_rfl, by kernel_rfl⟩
noncomputable def Y12 (I : Ops) (K : FuncId → En) : CallsA := (Tab.calls [(43, false, callIce I (callE I (K 43) sh43)), (44, false, callIce I (callE I (K 44) sh44)), (45, false, callIce I (callE I (K 45) sh45))])
theorem tY12 {I : Ops} (hI : I = real) {K : FuncId → En} (k43 : K 43 = en43) (k44 : K 44 = en44) (k45 : K 45 = en45) : CallsOk Tryz.prog (Y12 I K) := (TabOk.calls mixed ⟨EntryOk.own (s43 hI k43) hI, notQuiet, ⟨EntryOk.own (s44 hI k44) hI, notQuiet, ⟨EntryOk.own (s45 hI k45) hI, notQuiet, trivial⟩⟩⟩)
theorem s12 {I : Ops} (hI : I = real) {K : FuncId → En} (k43 : K 43 = en43) (k44 : K 44 = en44) (k45 : K 45 = en45) : Sound Tryz.prog 12 (inl X I (Y12 I K) Tryz.f12) :=
  Sound.inl (Y := (Y12 I K)) xok (tY12 hI k43 k44 k45) ent12 Tryz.func12 rfl rfl hI
theorem ent15 : Enters Tryz.prog 15 := ⟨Tryz.f15, Tryz.func15, by kernel_rfl, by kernel_rfl⟩
noncomputable def Y15 (I : Ops) (K : FuncId → En) : CallsA := (Tab.calls [(50, true, callRd I (callE I (K 50) sh50)), (51, true, callRd I (callE I (K 51) sh51)), (52, true, callRd I (callE I (K 52) sh52))])
theorem tY15 {I : Ops} (hI : I = real) {K : FuncId → En} (k50 : K 50 = en50) (k51 : K 51 = en51) (k52 : K 52 = en52) : CallsOk Tryz.prog (Y15 I K) := (TabOk.calls mixed ⟨EntryOk.rd (s50 hI k50) hI, fun _ => callRd_quiet _ _, ⟨EntryOk.rd (s51 hI k51) hI, fun _ => callRd_quiet _ _, ⟨EntryOk.rd (s52 hI k52) hI, fun _ => callRd_quiet _ _, trivial⟩⟩⟩)
theorem s15 {I : Ops} (hI : I = real) {K : FuncId → En} (k50 : K 50 = en50) (k51 : K 51 = en51) (k52 : K 52 = en52) : Sound Tryz.prog 15 (inl X I (Y15 I K) Tryz.f15) :=
  Sound.inl (Y := (Y15 I K)) xok (tY15 hI k50 k51 k52) ent15 Tryz.func15 rfl rfl hI
end Go.Proofs.Tryz
