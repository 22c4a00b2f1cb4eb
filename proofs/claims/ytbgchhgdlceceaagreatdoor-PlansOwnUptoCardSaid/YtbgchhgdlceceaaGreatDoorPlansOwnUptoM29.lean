/- Parts of the proof, joined: Regions that draw their order and whose operations only make memory (none turns what is there): walked once, in an order of one's own. Over any program.; What the walks of package record lean on.; Encode and Coded, walked.; rillref.covers, walked by its own recursion; Covers.; The law SubjectMatches, walked: it returns true. -/
import Derived.Test.YtbgchhgdlceceaaGreatDoorPlansOwnUptoM28
import Derived.StillTail
import Derived.Below
import Derived.Deep.Draws
import Derived.Outline
namespace Go.Proofs.YtbgchhgdlceceaaGreatDoor.Grow
open Go Go.RowKit

section
variable {P : Program} {ops : Array Oper} {md : Region.Mode}

/-- What an operation yields: something of which R holds, in a world that goes on from the one that it got. -/
def upon (P : Program) (w : World) (R : Value → World → Prop) : Result Next → Prop
  | .ok (.value u) w' => Below w.heap.size w w' ∧ R u w'
  | .ok .skip w' => Below w.heap.size w w' ∧ R undef w'
  | .ok (.enter f args) w' => w' = w ∧ Calls P f args w (fun e w'' => ∃ v, e = .returned v ∧ Below w.heap.size w w'' ∧ R v w'')
  | _ => False

def growAt (P : Program) (o : Oper) (a : Act) (w : World) (R : Value → World → Prop) : Prop := upon P w R ((execOp a.eval o).run P w)

def GY (P : Program) (ops : Array Oper) (G : World → Prop) (o : Oper) (v : Value) (a : Act) : Prop :=
  (Region.wanted o (yielded ops a.tmps) = true ∧ ∀ w, G w → growAt P o a w (fun u _ => u = v)) ∨
  (Region.wanted o (yielded ops a.tmps) = false ∧ v = undef)

theorem GY.mono {G G' : World → Prop} {o : Oper} {v : Value} {a : Act} (h : GY P ops G o v a) (hG : ∀ w, G' w → G w) : GY P ops G' o v a := by
  rcases h with ⟨h1, h2⟩ | h
  · exact .inl ⟨h1, fun w hw => h2 w (hG w hw)⟩
  · exact .inr h

/-! ### An order of one's own -/

/-! ### The class as a variable of a kind of its own: the walk's simp goes through it -/

structure Over (w : World) where
  val : World
  below : Below w.heap.size w val

@[go_sem] theorem below_self (w : World) : Below w.heap.size w w = True := by simp [Below.refl]

instance (w : World) : Nonempty (Over w) := ⟨⟨w, Below.refl _ _⟩⟩

variable {L : (World → Prop) → Act → Prop} {G : World → Prop} {a : Act} {rest : List (Nat × Bool)}

end
end Go.Proofs.YtbgchhgdlceceaaGreatDoor.Grow

namespace Go.Proofs.YtbgchhgdlceceaaGreatDoor.Rec
end Go.Proofs.YtbgchhgdlceceaaGreatDoor.Rec

namespace Go.Proofs.YtbgchhgdlceceaaGreatDoor.Rec
open Go.RowKit Subj Pack Crc Grow

attribute [local go_sem] Grow.growAt Grow.upon

end Go.Proofs.YtbgchhgdlceceaaGreatDoor.Rec

namespace Go.Proofs.YtbgchhgdlceceaaGreatDoor.Subj
open Go.RowKit
end Go.Proofs.YtbgchhgdlceceaaGreatDoor.Subj

namespace Go.Proofs.YtbgchhgdlceceaaGreatDoor.Subj
open Go.RowKit

end Go.Proofs.YtbgchhgdlceceaaGreatDoor.Subj
