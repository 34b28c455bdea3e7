/-
  TV: each operation on plain values is the model's own (2): operators, conversions of numbers, slices of texts and lists, addresses.
-/
import Derived.Test.YtmmofmkencnldaaGreatDoorTVOps1
namespace Go.Proofs.YtmmofmkencnldaaGreatDoor.TV
open Go Go.RowKit
set_option linter.unusedSimpArgs false
set_option linter.unusedVariables false

section
variable {P : Program} {g : G} {w : World} {s : St}

def plainV : Value → Bool
  | .int .. | .float .. | .complex .. | .string _ => false
  | _ => true
def plainT : TV → Bool
  | .int .. | .str _ | .junk => false
  | _ => true
theorem plainV_of {rx : Value} {x : TV} (h : VRel g rx x) (hp : plainT x = true) : plainV rx = true := by
  cases h <;> first | rfl | simp [plainT] at hp
theorem binOp_eql_plain (t : TypeId) {rx ry : Value} (h : plainV rx = true) : binOp .eql t rx ry = (do pure (.bool (← Op.equal t rx ry))) := by
  cases rx <;> simp [plainV] at h <;> cases ry <;> rfl
theorem binOp_neq_plain (t : TypeId) {rx ry : Value} (h : plainV rx = true) : binOp .neq t rx ry = (do pure (.bool (!(← Op.equal t rx ry)))) := by
  cases rx <;> simp [plainV] at h <;> cases ry <;> rfl

theorem eqT_form {d : Nat} {t : TypeId} {x y : TV} {b : Bool} (h : eqT P d t x y = some b) : (∃ k a k' b', x = .int k a ∧ y = .int k' b') ∨ (∃ a b', x = .str a ∧ y = .str b') ∨ plainT x = true := by
  cases d with
  | zero => simp [eqT] at h
  | succ d =>
    unfold eqT at h
    split at h <;> first | (exact .inr (.inr rfl)) | (exact .inl ⟨_, _, _, _, rfl, rfl⟩) | (exact .inr (.inl ⟨_, _, rfl, rfl⟩)) | (cases h)

set_option maxHeartbeats 1000000 in
theorem binT_ok {op : BinOp} {t : TypeId} {x y v : TV} {rx ry : Value} (hR : Rel P g w s) (hx : VRel g rx x) (hy : VRel g ry y) (h : binT P op t x y = some v) :
    ∃ rv, (binOp op t rx ry).run P w = .ok rv w ∧ VRel g rv v := by
  unfold binT at h
  split at h
  · rename_i k a yk b
    cases hx
    cases hy
    split at h
    · split at h
      · cases h
      · rename_i hb
        cases h
        exact ⟨_, by simp [binOp, Op.shift, hb], .int _ _⟩
    · split at h
      · cases h
      · rename_i hb
        cases h
        exact ⟨_, by simp [binOp, Op.shift, hb], .int _ _⟩
    · split at h
      · cases h
      · rename_i hk
        have hk' : k = yk := by simpa using hk
        subst hk'
        split at h
        · cases h; exact ⟨_, by simp [binOp, Op.intArith], .int _ _⟩
        · cases h; exact ⟨_, by simp [binOp, Op.intArith], .int _ _⟩
        · cases h; exact ⟨_, by simp [binOp, Op.intArith], .int _ _⟩
        · split at h
          · cases h
          · rename_i hb; cases h; exact ⟨_, by simp [binOp, Op.intDiv, hb], .int _ _⟩
        · split at h
          · cases h
          · rename_i hb; cases h; exact ⟨_, by simp [binOp, Op.intDiv, hb], .int _ _⟩
        · cases h; exact ⟨_, by simp [binOp, Op.intBits], .int _ _⟩
        · cases h; exact ⟨_, by simp [binOp, Op.intBits], .int _ _⟩
        · cases h; exact ⟨_, by simp [binOp, Op.intBits], .int _ _⟩
        · cases h; exact ⟨_, by simp [binOp, Op.intBits], .int _ _⟩
        · cases h; exact ⟨_, by simp [binOp, Op.intCmp], .bool _⟩
        · cases h; exact ⟨_, by simp [binOp, Op.intCmp], .bool _⟩
        · cases h; exact ⟨_, by simp [binOp, Op.intCmp], .bool _⟩
        · cases h; exact ⟨_, by simp [binOp, Op.intCmp], .bool _⟩
        · cases h; exact ⟨_, by simp [binOp, Op.intCmp], .bool _⟩
        · cases h; exact ⟨_, by simp [binOp, Op.intCmp], .bool _⟩
        · cases h
  · rename_i a b
    cases hx with
    | str sa _ ea =>
      cases hy with
      | str sb _ eb =>
        have la : sa.size = a.length := by rw [← ea]; exact Array.length_toList.symm
        have lb : sb.size = b.length := by rw [← eb]; exact Array.length_toList.symm
        have ha := bytes_of ea
        have hb := bytes_of eb
        split at h
        · split at h
          · rename_i hl
            cases h
            have hl' : ¬ ((9223372036854775807 : Int) < (sa.size : Int) + (sb.size : Int)) := by omega
            have hmax : IntKind.i64.max = 9223372036854775807 := rfl
            refine ⟨.string (sa ++ sb), ?_, .str _ _ ?_⟩
            · simp [binOp, Op.stringOp, hmax, hl']
            · rw [← ea, ← eb]; simp [ByteArray.data_append]
          · cases h
        · cases h; exact ⟨_, by simp only [binOp, Op.stringOp, ha, hb, Sem.run_pure], .bool _⟩
        · cases h; exact ⟨_, by simp only [binOp, Op.stringOp, ha, hb, Sem.run_pure], .bool _⟩
        · cases h; exact ⟨_, by simp only [binOp, Op.stringOp, ha, hb, Sem.run_pure], .bool _⟩
        · cases h; exact ⟨_, by simp only [binOp, Op.stringOp, ha, hb, Sem.run_pure], .bool _⟩
        · cases h; exact ⟨_, by simp only [binOp, Op.stringOp, ha, hb, Sem.run_pure], .bool _⟩
        · cases h; exact ⟨_, by simp only [binOp, Op.stringOp, ha, hb, Sem.run_pure], .bool _⟩
        · cases h
  · rename_i h1 h2
    split at h
    · obtain ⟨b, hb, rfl⟩ := Option.map_eq_some_iff.1 h
      have hf : plainT x = true := by
        rcases eqT_form hb with ⟨k, a, k', b', rfl, rfl⟩ | ⟨a, b', rfl, rfl⟩ | hp
        · exact absurd rfl (h1 _ _ _ _ rfl)
        · exact absurd rfl (h2 _ _ rfl)
        · exact hp
      refine ⟨_, ?_, .bool _⟩
      rw [binOp_eql_plain t (plainV_of hx hf)]
      simp [Op.equal, eqT_ok 100 Op.maxDepth t x y rx ry b (by decide) hR hx hy hb]
    · obtain ⟨b, hb, rfl⟩ := Option.map_eq_some_iff.1 h
      have hf : plainT x = true := by
        rcases eqT_form hb with ⟨k, a, k', b', rfl, rfl⟩ | ⟨a, b', rfl, rfl⟩ | hp
        · exact absurd rfl (h1 _ _ _ _ rfl)
        · exact absurd rfl (h2 _ _ rfl)
        · exact hp
      refine ⟨_, ?_, .bool _⟩
      rw [binOp_neq_plain t (plainV_of hx hf)]
      simp [Op.equal, eqT_ok 100 Op.maxDepth t x y rx ry b (by decide) hR hx hy hb]
    · cases h

theorem guardT_ok {op : BinOp} {t : TypeId} {x y : Operand} {a b : TV} {ra rb : Value} (ha : VRel g ra a) (hb : VRel g rb b) (hja : a ≠ .junk) (hjb : b ≠ .junk) (h : guardT P op t x y a b = true) :
    (eqGuard op t x y ra rb).run P w = .ok () w := by
  have key : ∀ op', (op' = .eql ∨ op' = .neq) → guardT P op' t x y a b = true → (eqGuard op' t x y ra rb).run P w = .ok () w := by
    intro op' ho hg
    have e1 : (eqGuard op' t x y ra rb) = (eqGuard .eql t x y ra rb) := by rcases ho with rfl | rfl <;> rfl
    have e2 : guardT P .eql t x y a b = true := by rcases ho with rfl | rfl <;> exact hg
    rw [e1]
    clear e1 hg ho h
    cases ha <;> first | exact absurd rfl hja | skip
    all_goals (cases hb <;> first | exact absurd rfl hjb | rfl | skip)
    · simp only [guardT, Bool.or_eq_true] at e2
      rcases e2 with e2 | e2
      · cases x with
        | const v => rfl
        | _ => simp at e2
      · cases y with
        | const v => cases x <;> rfl
        | _ => simp at e2
    · have hq : P.eqGuardType P.depth t = false := by simpa [guardT] using e2
      simp [eqGuard, run_program, hq]
  by_cases ho : op = .eql ∨ op = .neq
  · exact key op ho h
  · cases op <;> first | rfl | exact absurd (Or.inl rfl) ho | exact absurd (Or.inr rfl) ho

theorem unT_ok {op : UnOp} {x v : TV} {rx : Value} (hx : VRel g rx x) (h : unT op x = some v) : ∃ rv, (Op.unary op rx).run P w = .ok rv w ∧ VRel g rv v := by
  unfold unT at h
  split at h
  · cases hx; cases h; exact ⟨_, by simp [Op.unary, Op.intArith], .int _ _⟩
  · cases hx; cases h; exact ⟨_, by simp [Op.unary, Op.intBits], .int _ _⟩
  · cases hx; cases h; exact ⟨_, by simp [Op.unary], .bool _⟩
  · cases h
end
end Go.Proofs.YtmmofmkencnldaaGreatDoor.TV
