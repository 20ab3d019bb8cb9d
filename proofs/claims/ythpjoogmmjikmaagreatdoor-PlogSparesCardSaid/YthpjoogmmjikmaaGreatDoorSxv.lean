/-
  The sorted keys of one's own map.
  No condition beyond those that each theorem names.
-/
import Derived.Test.YthpjoogmmjikmaaGreatDoorSxo
set_option linter.unusedVariables false
set_option linter.unusedSimpArgs false
/-! The sorted keys of one's own map; lists that are risen. -/
set_option linter.unusedVariables false
namespace Go.Sx
theorem insS_first {le : Int → Int → Bool} (x : Int) : ∀ (l : List Int), (∀ y ∈ l, le x y = true) → insS le x l = x :: l
  | [], _ => rfl
  | y :: l, h => by unfold insS; rw [h y List.mem_cons_self]; rfl
theorem isort_id {le : Int → Int → Bool} : ∀ (l : List Int), l.Pairwise (fun a b => le a b = true) → isort le l = l
  | [], _ => rfl
  | x :: l, h => by
    obtain ⟨h1, h2⟩ := List.pairwise_cons.1 h
    unfold isort; rw [isort_id l h2]; exact insS_first x l h1
section
variable {α : Type} {key : α → Int} {r : Rp α} {A B : Nat → Prop} {I : List Nat} {w0 w : AW} {L : Obs}
theorem EnR.keys : ∀ {es : List (AV × AV)} {N : List α}, EnR key r A w es N → (∀ x ∈ N, -(2 ^ 62) < key x ∧ key x < 2 ^ 62) → kindI.keys es = some (N.map key)
  | [], [], _, _ => rfl
  | (a, b) :: es, x :: N, h, hr => by
    have h1 : a = .int .i64 (key x) := h.1
    have h2 := EnR.keys h.2.2 fun y hy => hr y (List.mem_cons_of_mem _ hy)
    have hx := hr x List.mem_cons_self
    have hok : kindI.ok (key x) = true := by
      show (Lit.int .i64 (key x)).wf = true
      simp only [Lit.wf, Bool.and_eq_true, decide_eq_true_eq]
      constructor
      · simp [IntKind.min, IntKind.bits, IntKind.signed]; omega
      · simp [IntKind.max, IntKind.bits, IntKind.signed]; omega
    subst h1
    show bnd (some (key x)) (fun y => bnd (kindI.keys es) fun l => cond (kindI.ok y) (some (y :: l)) none) = _
    rw [h2]
    show (cond (kindI.ok (key x)) (some (key x :: N.map key)) none) = _
    rw [hok]; rfl
  | [], _ :: _, h, _ => h.elim
  | _ :: _, [], h, _ => h.elim
theorem Ow.sorted {fS fK i j bx m : Nat} {es : List (AV × AV)} {N : List α} {cs : List AV} (st : Ow A I w0 w L) (hi : nth L i = some (bx, .row (.map m :: cs))) (hj : nth L j = some (m, .map es)) (hE : EnR key r B w es N)
    (hr : ∀ x ∈ N, -(2 ^ 62) < key x ∧ key x < 2 ^ 62) (hs : (N.map key).Pairwise (· < ·)) (hc : N.length ≤ 65536) :
    ∃ v w', hookS kindI fS fK w [.func fK [] [.ptr bx 0]] = some (v, w') ∧ Fr w.size w w' ∧ (rL rI).rd (fz A (ids L)) w' [v] (N.map key) := by
  obtain ⟨hb, _, _, hz⟩ := st.box _ (nth_mem hi) rfl
  have hb : w.get bx = some (.cells (.map m :: cs) bx bx false) := hb
  have hz : bx ≠ 0 := hz
  obtain ⟨cl, hm⟩ := st.mapAt hj
  have hbm : boxMap w bx = some m := by
    unfold boxMap
    rw [hb]
    simp only [Nat.beq_refl, Bool.true_and]
    rw [beq_ff hz]
    rfl
  have hle : kindI.le = Go.Sx.leI := by unfold kindI; rfl
  have hsort : isort kindI.le (N.map key) = N.map key := isort_id _ (hs.imp fun h => by rw [hle, Go.Sx.leI_eq]; simp; omega)
  have hel : (N.map key).length = N.length := by simp
  have hhook : hookS kindI fS fK w [.func fK [] [.ptr bx 0]] = some (sortedA w kindI (N.map key)) := by
    show cond (Nat.beq fK fK) (bnd (boxMap w bx) fun r => bnd (Sx.mapAt w r) fun m => bnd (kindI.keys m.1) fun ks => cond (Nat.ble ks.length 65536) (some (sortedA w kindI ks)) none) none = _
    rw [Nat.beq_refl, hbm]
    show bnd (Sx.mapAt w m) (fun m => bnd (kindI.keys m.1) fun ks => cond (Nat.ble ks.length 65536) (some (sortedA w kindI ks)) none) = _
    rw [hm]
    show bnd (kindI.keys es) (fun ks => cond (Nat.ble ks.length 65536) (some (sortedA w kindI ks)) none) = _
    rw [hE.keys hr]
    show cond (Nat.ble (N.map key).length 65536) _ _ = _
    rw [show Nat.ble (N.map key).length 65536 = true by rw [Nat.ble_eq, hel]; exact hc]
    rfl
  cases hN : N.map key with
  | nil =>
    rw [hN] at hhook
    exact ⟨_, _, hhook, Fr.refl st.mem, Rp.rd.nil⟩
  | cons k ks =>
    rw [hN] at hsort hhook
    have f : Fr w.size w (newCells w ((isort kindI.le (k :: ks)).map kindI.encA)) := Fr.push st.mem fun cs' f own d e => by cases e; exact Nat.le_refl _
    refine ⟨_, _, hhook, f, ?_⟩
    rw [hsort]
    have hb : Box (newCells w ((k :: ks).map kindI.encA)) w.size ((k :: ks).map (AV.int .i64)) := by simp [Box, newCells, cellsAO]; exact ⟨rfl, fun _ _ => rfl⟩
    exact Box.sl hb (st.P.new _ (Nat.le_refl _)) rfl (Chk.ints.2 rfl)
end
end Go.Sx
