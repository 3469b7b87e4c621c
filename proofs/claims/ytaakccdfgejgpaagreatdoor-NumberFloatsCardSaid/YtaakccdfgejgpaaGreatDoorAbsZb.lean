/-
  Lists of contracts.
-/
import Derived.Test.YtaakccdfgejgpaaGreatDoorAbsZa
import Derived.KernelRfl
namespace Go.Proofs.YtaakccdfgejgpaaGreatDoor.Abs
open Go
def AllS (P : Program) (C : Cfg) (k : Nat) : List Ct → Prop
  | [] => True
  | c :: r => Snd P C k c ∧ AllS P C k r
theorem AllS.mem {P : Program} {C : Cfg} {k : Nat} : ∀ {l : List Ct}, AllS P C k l → ∀ ct ∈ l, Snd P C k ct
  | _ :: _, ⟨h, _⟩, _, .head _ => h
  | _ :: _, ⟨_, h⟩, _, .tail _ hi => AllS.mem h _ hi
end Go.Proofs.YtaakccdfgejgpaaGreatDoor.Abs
