/- The errors' words. -/
import Derived.Test.YtdnmfgpladgjhaaDoorGen
import Derived.Test.YtdnmfgpladgjhaaDoorNumE
namespace Go.Proofs.YtdnmfgpladgjhaaDoor
open Go Go.RowKit Go.Proofs.YtdnmfgpladgjhaaDoor.Gf
set_option linter.unusedVariables false
set_option linter.unusedSimpArgs false

theorem ErrW.mono {W W' : World} {E : Nat → Addr} {gs : List Nat} (h : ErrW W E gs) (hb : Below W.heap.size W W') : ErrW W' E gs := h.below hb
theorem num0_calls (E : Nat → Addr) (w : World) (hE : ErrW w E errG) :
    Calls Tryd.prog 24 #[.nilIface] w fun e w' => e = .returned (.int .i64 0) ∧ Below w.heap.size w w' := num_calls E 0 w hE (by omega)
theorem err_nil_eq {w : World} (E : Nat → Addr) (g : Nat) : (binOp .eql 28 (.iface 86 (.pointer (some (E g)))) .nilIface).run Tryd.prog w = .ok (.bool false) w :=
  run_eql_iface_nil_right (P := Tryd.prog) 86 (.pointer (some (E g))) Tryd.underlying28
theorem errN_0 (E : Nat → Addr) : errN E 0 = .nilIface := rfl
end Go.Proofs.YtdnmfgpladgjhaaDoor
