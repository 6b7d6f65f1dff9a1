/- awake returns true. -/
import Derived.Test.YtaigknknfaeajaaGreatDoorQE1
import Derived.Test.YtaigknknfaeajaaGreatDoorQE2
import Derived.Test.YtaigknknfaeajaaGreatDoorQE3
import Derived.Test.YtaigknknfaeajaaGreatDoorQE4
open Go Go.Vm Go.Proofs Sp
namespace Qq
noncomputable section
noncomputable def awo102 : Orc := orcC [(awk0, awr0)]
theorem awok102 : Ok Tryz.prog 102 awo102 := okC (allC_cons (runT_ok hm ctxA_ok awt0) allC_nil)
noncomputable def awo20 : Orc := orcC [(awk1, awr1)]
theorem awok20 : Ok Tryz.prog 20 awo20 := okC (allC_cons (runT_ok hm ctxA_ok awt1) allC_nil)
noncomputable def awo78 : Orc := orcC [(awk2, awr2)]
theorem awok78 : Ok Tryz.prog 78 awo78 := okC (allC_cons (runT_ok hm ctxA_ok awt2) allC_nil)
noncomputable def awo25 : Orc := orcC [(awk3, awr3)]
theorem awok25 : Ok Tryz.prog 25 awo25 := okC (allC_cons (runT_ok hm ctxA_ok awt3) allC_nil)
noncomputable def awo26 : Orc := orcC [(awk4, awr4)]
theorem awok26 : Ok Tryz.prog 26 awo26 := okC (allC_cons (runT_ok hm ctxA_ok awt4) allC_nil)
noncomputable def awo27 : Orc := orcC [(awk5, awr5)]
theorem awok27 : Ok Tryz.prog 27 awo27 := okC (allC_cons (runT_ok hm ctxA_ok awt5) allC_nil)
noncomputable def awo103 : Orc := orcC [(awk6, awr6)]
theorem awok103 : Ok Tryz.prog 103 awo103 := okC (allC_cons (runT_ok hm ctxA_ok awt6) allC_nil)
noncomputable def awo36 : Orc := orcC [(awk7, awr7)]
theorem awok36 : Ok Tryz.prog 36 awo36 := okC (allC_cons (runT_ok hm ctxA_ok awt7) allC_nil)
noncomputable def awo41 : Orc := orcC [(awk8, awr8), (awk9, awr9)]
theorem awok41 : Ok Tryz.prog 41 awo41 := okC (allC_cons (runT_ok hm ctxA_ok awt8) (allC_cons (runT_ok hm ctxA_ok awt9) allC_nil))
noncomputable def awo42 : Orc := orcC [(awk10, awr10)]
theorem awok42 : Ok Tryz.prog 42 awo42 := okC (allC_cons (runT_ok hm ctxA_ok awt10) allC_nil)
noncomputable def awo52 : Orc := orcC [(awk11, awr11)]
theorem awok52 : Ok Tryz.prog 52 awo52 := okC (allC_cons (runT_ok hm ctxA_ok awt11) allC_nil)
noncomputable def awo43 : Orc := orcC [(awk12, awr12), (awk13, awr13)]
theorem awok43 : Ok Tryz.prog 43 awo43 := okC (allC_cons (runT_ok hm ctxA_ok awt12) (allC_cons (runT_ok hm ctxA_ok awt13) allC_nil))
noncomputable def awo75 : Orc := orcC [(awk14, awr14), (awk18, awr18), (awk19, awr19), (awk22, awr22), (awk29, awr29), (awk32, awr32), (awk36, awr36), (awk37, awr37), (awk38, awr38), (awk39, awr39)]
theorem awok75 : Ok Tryz.prog 75 awo75 := okC (allC_cons (runT_ok hm ctxA_ok awt14) (allC_cons (runT_ok hm ctxA_ok awt18) (allC_cons (runT_ok hm ctxA_ok awt19) (allC_cons (runT_ok hm ctxA_ok awt22) (allC_cons (runT_ok hm ctxA_ok awt29) (allC_cons (runT_ok hm ctxA_ok awt32) (allC_cons (runT_ok hm ctxA_ok awt36) (allC_cons (runT_ok hm ctxA_ok awt37) (allC_cons (runT_ok hm ctxA_ok awt38) (allC_cons (runT_ok hm ctxA_ok awt39) allC_nil))))))))))
noncomputable def awo104 : Orc := orcC [(awk15, awr15), (awk40, awr40)]
theorem awok104 : Ok Tryz.prog 104 awo104 := okC (allC_cons (runT_ok hm ctxA_ok awt15) (allC_cons (runT_ok hm ctxA_ok awt40) allC_nil))
noncomputable def awo34 : Orc := orcC [(awk16, awr16), (awk17, awr17)]
theorem awok34 : Ok Tryz.prog 34 awo34 := okC (allC_cons (runT_ok hm ctxA_ok awt16) (allC_cons (runT_ok hm ctxA_ok awt17) allC_nil))
noncomputable def awo105 : Orc := orcC [(awk20, awr20), (awk21, awr21), (awk23, awr23), (awk30, awr30)]
theorem awok105 : Ok Tryz.prog 105 awo105 := okC (allC_cons (runT_ok hm ctxA_ok awt20) (allC_cons (runT_ok hm ctxA_ok awt21) (allC_cons (runT_ok hm ctxA_ok awt23) (allC_cons (runT_ok hm ctxA_ok awt30) allC_nil))))
noncomputable def awo58 : Orc := orcC [(awk24, awr24), (awk25, awr25), (awk26, awr26)]
theorem awok58 : Ok Tryz.prog 58 awo58 := okC (allC_cons (runT_ok hm ctxA_ok awt24) (allC_cons (runT_ok hm ctxA_ok awt25) (allC_cons (runT_ok hm ctxA_ok awt26) allC_nil)))
noncomputable def awo59 : Orc := orcC [(awk27, awr27)]
theorem awok59 : Ok Tryz.prog 59 awo59 := okC (allC_cons (runT_ok hm ctxA_ok awt27) allC_nil)
noncomputable def awo60 : Orc := orcC [(awk28, awr28)]
theorem awok60 : Ok Tryz.prog 60 awo60 := okC (allC_cons (runT_ok hm ctxA_ok awt28) allC_nil)
noncomputable def awo54 : Orc := orcC [(awk31, awr31), (awk33, awr33)]
theorem awok54 : Ok Tryz.prog 54 awo54 := okC (allC_cons (runT_ok hm ctxA_ok awt31) (allC_cons (runT_ok hm ctxA_ok awt33) allC_nil))
noncomputable def awo66 : Orc := orcC [(awk34, awr34)]
theorem awok66 : Ok Tryz.prog 66 awo66 := okC (allC_cons (runT_ok hm ctxA_ok awt34) allC_nil)
noncomputable def awo97 : Orc := orcC [(awk35, awr35)]
theorem awok97 : Ok Tryz.prog 97 awo97 := okC (allC_cons (runT_ok hm ctxA_ok awt35) allC_nil)
noncomputable def awtab : List (Nat × Orc) := [(102, awo102), (20, awo20), (78, awo78), (25, awo25), (26, awo26), (27, awo27), (103, awo103), (36, awo36), (41, awo41), (42, awo42), (52, awo52), (43, awo43), (75, awo75), (104, awo104), (34, awo34), (105, awo105), (58, awo58), (59, awo59), (60, awo60), (54, awo54), (66, awo66), (97, awo97)]
theorem awall : ∀ p ∈ awtab, Ok Tryz.prog p.1 p.2 := (all_cons awok102 (all_cons awok20 (all_cons awok78 (all_cons awok25 (all_cons awok26 (all_cons awok27 (all_cons awok103 (all_cons awok36 (all_cons awok41 (all_cons awok42 (all_cons awok52 (all_cons awok43 (all_cons awok75 (all_cons awok104 (all_cons awok34 (all_cons awok105 (all_cons awok58 (all_cons awok59 (all_cons awok60 (all_cons awok54 (all_cons awok66 (all_cons awok97 all_nil))))))))))))))))))))))
noncomputable def cAw : CallF := ctx Tryz.prog awtab
theorem cAw_ok : CallOK Tryz.prog cAw := ctx_ok hm awall
theorem awake_t : runT Tryz.prog cAw 18 ([], []) = some (.bool true, []) := by kernel_rfl
theorem okTrue : Ok Tryz.prog 18 orcTrue := by
  intro args H ret H' h
  unfold orcTrue at h
  split at h
  · cases h; exact runT_ok hm cAw_ok awake_t
  · cases h
end
end Qq
