/-
  THE LAW assizelaw29.DocketKnown, COMPUTED, out of its checkpoints: the evaluator answers true.
-/
import Derived.Test.YtkmlcncemcaidaaGreatDoorDkK3
namespace Go.Proofs.YtkmlcncemcaidaaGreatDoor
open Go Go.Ev
set_option maxRecDepth 100000
noncomputable def tbL : List (Nat × List Ck) := [(10, [ck0, ck9, ck13, ck14]), (5, [ck1, ck2, ck12, ck15, ck16, ck17]), (6, [ck3, ck4, ck5, ck10, ck11, ck18]), (8, [ck6, ck7, ck8])]
theorem tbL_ok : CkRs Tryz.prog tbL := ⟨⟨fk10, (ck_cons ck0r (ck_cons ck9r (ck_cons ck13r (ck_cons ck14r ck_nil))))⟩, ⟨⟨fk5, (ck_cons ck1r (ck_cons ck2r (ck_cons ck12r (ck_cons ck15r (ck_cons ck16r (ck_cons ck17r ck_nil))))))⟩, ⟨⟨fk6, (ck_cons ck3r (ck_cons ck4r (ck_cons ck5r (ck_cons ck10r (ck_cons ck11r (ck_cons ck18r ck_nil))))))⟩, ⟨⟨fk8, (ck_cons ck6r (ck_cons ck7r (ck_cons ck8r ck_nil)))⟩, trivial⟩⟩⟩⟩
noncomputable def ovL : Nat → Option (List AV → H → R) := ovC ovT tbL
theorem ovL_ok : OvOK Tryz.prog ovL := ovC_ok (P := Tryz.prog) (base := ovT) (l := tbL) ov_ok tbL_ok
theorem law_ev : okTrue (evCall Tryz.prog hint ovL 100000 200 3 [] hT) = true := by kernel_rfl
end Go.Proofs.YtkmlcncemcaidaaGreatDoor
