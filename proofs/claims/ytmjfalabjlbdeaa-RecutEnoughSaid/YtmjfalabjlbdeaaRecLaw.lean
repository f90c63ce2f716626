/- Plain words of the recut chapter: rests, needs, and what Assign computes. No program in sight. -/
import Derived.Test.YtmjfalabjlbdeaaBase
namespace Go.Proofs.Ytmjfalabjlbdeaa

structure Need where
  lot : Int
  len : Int

structure Rest where
  roll : Int
  lot : Int
  frm : Int
  til : Int

def usableF (r : Rest) : Bool := decide (0 ≤ r.frm ∧ r.frm ≤ r.til ∧ r.til ≤ 1048576)

/-- The rest serves the need. -/
def servesF (r : Rest) (d : Need) : Bool := decide (1 ≤ d.len ∧ d.len ≤ 1048576 ∧ r.lot = d.lot ∧ 0 ≤ r.frm ∧ r.frm ≤ r.til ∧ r.til ≤ 1048576 ∧ d.len ≤ r.til - r.frm)

/-- The index of the rest that a need gets, or -1. -/
def pickF (n : Nat) (left : Nat → Rest) (d : Need) : Int := firstF (fun i => servesF (left i) d) n 0

def cutF (left : Nat → Rest) (k : Int) (len : Int) : Nat → Rest := fun i => if (i : Int) = k then ⟨(left i).roll, (left i).lot, (left i).frm + len, (left i).til⟩ else left i

/-- The rests after the first m needs. -/
def leftF (n : Nat) (need : Nat → Need) (rest : Nat → Rest) : Nat → Nat → Rest
  | 0 => rest
  | m + 1 => cutF (leftF n need rest m) (pickF n (leftF n need rest m) (need m)) (need m).len

/-- What need m gets. -/
def gotF (n : Nat) (need : Nat → Need) (rest : Nat → Rest) (m : Nat) : Int := pickF n (leftF n need rest m) (need m)

theorem pick_spec (n : Nat) (left : Nat → Rest) (d : Need) : (pickF n left d = -1 ∧ ∀ j, j < n → servesF (left j) d = false) ∨ ∃ k, k < n ∧ pickF n left d = (k : Nat) ∧ servesF (left k) d = true ∧ ∀ j, j < k → servesF (left j) d = false :=
  firstF_spec _ n

theorem cut_none (left : Nat → Rest) (len : Int) : cutF left (-1) len = left := by
  funext i
  unfold cutF
  rw [if_neg (by omega)]

end Go.Proofs.Ytmjfalabjlbdeaa
