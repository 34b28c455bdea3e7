/-
  TV: each operation on plain values is the model's own (7): conversions; all that only reads, in one theorem.
-/
import Derived.Test.YtmmofmkencnldaaGreatDoorTVOps6
namespace Go.Proofs.YtmmofmkencnldaaGreatDoor.TV
open Go Go.RowKit
set_option linter.unusedSimpArgs false
set_option linter.unusedVariables false

section
variable {P : Program} {g : G} {w : World} {s : St}

theorem foldl_push (ns : List Int) (r : ByteArray) : (ns.foldl (fun r n => r.push (UInt8.ofNat n.toNat)) r).data.toList = r.data.toList ++ ns.map (fun n => UInt8.ofNat n.toNat) := by
  induction ns generalizing r with
  | nil => simp
  | cons n ns ih =>
    rw [List.foldl_cons, ih]
    simp [ByteArray.push]

theorem bytesOf_form : ∀ {es : List TV} {l : List UInt8}, bytesOf es = some l → ∃ ns : List Int, es = ns.map (TV.int .u8) ∧ l = ns.map (fun n => UInt8.ofNat n.toNat)
  | [], l, h => by simp [bytesOf] at h; subst h; exact ⟨[], rfl, rfl⟩
  | e :: es, l, h => by
    unfold bytesOf at h
    split at h
    · rename_i heq; cases heq
    · rename_i n r heq
      cases heq
      split at h
      · rename_i r' hr
        cases h
        obtain ⟨ns, rfl, rfl⟩ := bytesOf_form hr
        exact ⟨n :: ns, rfl, rfl⟩
      · cases h
    · cases h

theorem ints_of {ns : List Int} {vs : List Value} (h : VRels g vs (ns.map (TV.int .u8))) : vs = ns.map (Value.int .u8) := by
  induction ns generalizing vs with
  | nil => cases h; rfl
  | cons n ns ih =>
    cases h with
    | cons v t vs ts r rs =>
      cases r
      rw [ih rs]
      rfl

/-- string(b), b's cells being these. -/
theorem string_of_cells {src dst e : TypeId} (hs : P.underlying src = some (.slice e)) (he : P.underlying e = some (.int .u8)) (hd : P.underlying dst = some .string) (a : Addr) (len cap : Nat) (ns : List Int) (hl : ns.length = len)
    (hc : ∀ j v, (ns.map (Value.int .u8))[j]? = some v → w.cell? (a.add j) = some v) :
    ∃ rv, (convert src dst (.slice (some a) len cap)).run P w = .ok rv w ∧ VRel g rv (.str (ns.map (fun n => UInt8.ofNat n.toNat))) := by
  have h1 := run_loadCells_list (P := P) w a (ns.map (Value.int .u8)) hc
  rw [List.length_map, hl] at h1
  refine ⟨_, (run_convert_bytes_string w src dst e (some a) len cap hs he hd).trans (run_bytesToString w a len cap ns h1), .str _ _ ?_⟩
  rw [foldl_push]
  rfl

theorem flat_ints (ns : List Int) : (ns.map (TV.int .u8)).flatMap TV.cells = ns.map (TV.int .u8) := by
  induction ns with
  | nil => rfl
  | cons n ns ih => simp only [List.map_cons, List.flatMap_cons, ih]; rfl

theorem bytes_rel (g : G) (b : List UInt8) : VRels g (b.map fun c => Value.int .u8 c.toNat) ((b.map fun c => (c.toNat : Int)).map (TV.int .u8)) := by
  induction b with
  | nil => exact .nil
  | cons c b ih => exact .cons _ _ _ _ (.int _ _) ih

theorem convT_ok {src dst : TypeId} {x v : TV} {rx : Value} (hR : Rel P g w s) (hx : VRel g rx x) (h : convT P s src dst x = some v) :
    ∃ rv w' g', (convert src dst rx).run P w = .ok rv w' ∧ g.le g' ∧ Rel P g' w' s ∧ VRel g' rv v := by
  unfold convT at h
  split at h
  · rename_i d k k' n hs hd
    cases hx
    cases h
    exact ⟨_, w, g, by simp [convert, run_underlying hs, run_underlying hd, Conv.intToInt], .refl g, hR, .int _ _⟩
  · rename_i b hs hd
    cases hx with
    | str sb _ e =>
      cases h
      exact ⟨.string sb, w, g, by simp [convert, run_underlying hs, run_underlying hd], .refl g, hR, .str _ _ e⟩
  · rename_i e b hs hd
    cases hx with
    | str sb _ eb =>
      split at h
      · rename_i he
        cases h
        have hrun := run_bytes_of_string (P := P) w src dst e sb hs hd he
        have hsz : sb.size = b.length := by rw [← eb]; exact Array.length_toList.symm
        have hge := grownCap_ge w sb.size 0 e
        obtain ⟨h1, h2, h3⟩ := hR.newData (w' := w.drew.alloc (.cells (bytesRow sb (grownCap w sb.size 0 e)) e ((bytesRow sb (grownCap w sb.size 0 e)).size, (bytesRow sb (grownCap w sb.size 0 e)).size + 1)))
          (((Below.refl _ w).drew).alloc (Nat.le_refl _) _) (b := w.heap.size) (Nat.le_refl _) (vs := b.map fun c => Value.int .u8 c.toNat) (fun i v hv => by
            have := World.cell?_alloc_mark w.drew (bytesRow sb (grownCap w sb.size 0 e)) e ((bytesRow sb (grownCap w sb.size 0 e)).size, (bytesRow sb (grownCap w sb.size 0 e)).size + 1) i
            refine Eq.trans this ?_
            have hi : i < b.length := by
              have := (List.getElem?_eq_some_iff.1 hv).1
              simpa using this
            unfold bytesRow
            rw [Array.getElem?_append_left (by simp; show i < sb.data.size; have : sb.data.size = sb.size := rfl; omega), ← hv, ← eb]
            simp)
        refine ⟨_, _, _, hrun, h1, h2, ?_⟩
        by_cases hb : b = []
        · subst hb
          have h0 : sb.size = 0 := hsz
          rw [h0]
          exact .empty _ _ _ (by intro i e; cases e) (by intro e; cases e)
        · refine .slice _ 0 _ _ 1 (b.map fun c => Value.int .u8 c.toNat) _ _ (by simpa using hb) (by rw [List.length_map]; exact hsz.symm) hge (by omega) (fun e he => ?_) h3 ?_ trivial
          · obtain ⟨c, _, rfl⟩ := List.mem_map.1 he
            rfl
          · have e1 : (b.map fun c => TV.int .u8 c.toNat) = (b.map fun c => (c.toNat : Int)).map (TV.int .u8) := by simp
            rw [e1, flat_ints]
            exact bytes_rel _ b
      · cases h
  · rename_i e isn es tok hs hd
    split at h
    · rename_i he
      obtain ⟨l, hl, rfl⟩ := Option.map_eq_some_iff.1 h
      obtain ⟨ns, hes, rfl⟩ := bytesOf_form hl
      cases hx with
      | nils _ _ =>
        have : ns = [] := by simpa using hes
        subst this
        refine ⟨.string .empty, w, g, ?_, .refl g, hR, .str _ _ rfl⟩
        rw [run_convert_bytes_string w src dst e none 0 0 hs he hd]
        rfl
      | empty a cap _ _ _ =>
        have : ns = [] := by simpa using hes
        subst this
        obtain ⟨rv, h1, h2⟩ := string_of_cells (g := g) (w := w) hs he hd a 0 cap [] rfl (by intro j v hv; simp at hv)
        exact ⟨rv, w, g, h1, .refl g, hR, h2⟩
      | slice bl off n cap size vs _ _ hne hn hcap hs0 hse hsol hrel htok =>
        subst hes
        rw [flat_ints] at hrel
        have hv := ints_of hrel
        subst hv
        obtain ⟨rv, h1, h2⟩ := string_of_cells (g := g) (w := w) hs he hd ⟨bl, off, none⟩ n cap ns (by simpa using hn) (fun j v hv => by
          rw [add_plain']
          exact hR.sol _ _ _ (hsol j v hv))
        exact ⟨rv, w, g, h1, .refl g, hR, h2⟩
    · cases h
  · rename_i e o off len cap hs hd
    split at h
    · rename_i cs t' he ho
      split at h
      · rename_i hl
        obtain ⟨l, hl', rfl⟩ := Option.map_eq_some_iff.1 h
        obtain ⟨ns, hns, rfl⟩ := bytesOf_form hl'
        have hlen : ns.length = len := by
          have := congrArg List.length hns
          simp at this
          omega
        cases hx with
        | osl a _ _ _ _ cap' ha hlc hcc =>
          by_cases hc : cap = 0
          · have : ns = [] := List.length_eq_zero_iff.1 (by omega)
            subst this
            obtain ⟨rv, h1, h2⟩ := string_of_cells (g := g) (w := w) hs he hd a len cap' [] hlen (by intro j v hv; simp at hv)
            exact ⟨rv, w, g, h1, .refl g, hR, h2⟩
          · obtain ⟨b, e1, rfl⟩ := ha hc
            obtain ⟨vs, h1, h2⟩ := objCells_rel hR e1 ho
            have h3 : VRels g ((vs.drop off).take len) (ns.map (TV.int .u8)) := by rw [← hns]; exact (h2.drop off).take len
            have h4 := ints_of h3
            obtain ⟨rv, h5, h6⟩ := string_of_cells (g := g) (w := w) hs he hd ⟨b, off, none⟩ len cap' ns hlen (fun j v hv => by
              rw [add_plain']
              rw [← h4] at hv
              rw [List.getElem?_take] at hv
              split at hv
              · rw [List.getElem?_drop] at hv
                exact h1 _ _ hv
              · cases hv)
            exact ⟨rv, w, g, h5, .refl g, hR, h6⟩
      · cases h
    · cases h
  · cases h
end
end Go.Proofs.YtmmofmkencnldaaGreatDoor.TV
