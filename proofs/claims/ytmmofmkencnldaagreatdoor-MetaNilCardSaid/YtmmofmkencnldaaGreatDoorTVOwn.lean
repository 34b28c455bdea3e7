/-
  TV: what differs from seat to seat: slices that are told as objects, for they are written; what is known of package variables.
-/
import GoSem.Step
import Derived.Control
import Derived.Below
namespace Go.Proofs.YtmmofmkencnldaaGreatDoor.TV
open Go Go.RowKit
/-- Package variables whose numbers are known: the numbers of the rounds of a digest. -/
def globC : Nat → List (IntKind × Int)
  | 1 => [(.u32, 1116352408), (.u32, 1899447441), (.u32, 3049323471), (.u32, 3921009573), (.u32, 961987163), (.u32, 1508970993), (.u32, 2453635748), (.u32, 2870763221), (.u32, 3624381080), (.u32, 310598401), (.u32, 607225278), (.u32, 1426881987), (.u32, 1925078388), (.u32, 2162078206), (.u32, 2614888103), (.u32, 3248222580), (.u32, 3835390401), (.u32, 4022224774), (.u32, 264347078), (.u32, 604807628), (.u32, 770255983), (.u32, 1249150122), (.u32, 1555081692), (.u32, 1996064986), (.u32, 2554220882), (.u32, 2821834349), (.u32, 2952996808), (.u32, 3210313671), (.u32, 3336571891), (.u32, 3584528711), (.u32, 113926993), (.u32, 338241895), (.u32, 666307205), (.u32, 773529912), (.u32, 1294757372), (.u32, 1396182291), (.u32, 1695183700), (.u32, 1986661051), (.u32, 2177026350), (.u32, 2456956037), (.u32, 2730485921), (.u32, 2820302411), (.u32, 3259730800), (.u32, 3345764771), (.u32, 3516065817), (.u32, 3600352804), (.u32, 4094571909), (.u32, 275423344), (.u32, 430227734), (.u32, 506948616), (.u32, 659060556), (.u32, 883997877), (.u32, 958139571), (.u32, 1322822218), (.u32, 1537002063), (.u32, 1747873779), (.u32, 1955562222), (.u32, 2024104815), (.u32, 2227730452), (.u32, 2361852424), (.u32, 2428436474), (.u32, 2756734187), (.u32, 3204031479), (.u32, 3329325298)]
  | _ => []
/-- The machine's sorted lists are written in place. -/
def ownedT (t : TypeId) : Bool := t == 70 || t == 88
/-- The rounds' numbers are laid; in the library's own variable is some number. -/
def VarsOk (b : Nat) (W : World) : Prop := 1 < b ∧ (∀ (i : Nat) (k : IntKind) (z : Int), (globC 1)[i]? = some (k, z) → W.cell? ⟨1, i, none⟩ = some (.int k z)) ∧ ∃ m : Int, W.cell? ⟨0, 0, none⟩ = some (.int .i64 m)
theorem VarsOk.glob {b : Nat} {W : World} (h : VarsOk b W) (n i : Nat) (k : IntKind) (z : Int) (e : (globC n)[i]? = some (k, z)) : n < b ∧ W.cell? ⟨n, i, none⟩ = some (.int k z) := by
  match n, e with
  | 1, e => exact ⟨h.1, h.2.1 i k z e⟩
  | 0, e => simp [globC] at e
  | n + 2, e => simp [globC] at e
theorem VarsOk.keep {b : Nat} {W w : World} (h : VarsOk b W) (hB : Below b W w) (hs : b ≤ w.heap.size) : VarsOk w.heap.size w := by
  obtain ⟨h0, hv, m, hm⟩ := h
  exact ⟨by omega, fun i k z e => (hB.cell (p := ⟨1, i, none⟩) h0).trans (hv i k z e), m, (hB.cell (p := ⟨0, 0, none⟩) (by show 0 < b; omega)).trans hm⟩
end Go.Proofs.YtmmofmkencnldaaGreatDoor.TV
