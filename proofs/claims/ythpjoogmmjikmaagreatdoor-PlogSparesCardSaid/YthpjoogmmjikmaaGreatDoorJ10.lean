/-
  What a law of chapter 7 asks of the disk besides, over memory.
  No condition beyond those that each theorem names.
-/
import Derived.Test.YthpjoogmmjikmaaGreatDoorI10
import Derived.Test.YthpjoogmmjikmaaGreatDoorSxr
set_option linter.unusedSimpArgs false
open Go.Sx
set_option linter.unusedVariables false
namespace Go.Proofs.YthpjoogmmjikmaaGreatDoor
theorem repl_eq (n : Nat) (z : AV) : repl n [z] = List.replicate n z := by
  induction n with
  | zero => rfl
  | succ n ih => show [z] ++ repl n [z] = _; rw [ih]; rfl
theorem keysS {ns : List (Byts × Int)} (h : ∀ u ∈ ns, u.1.length ≤ 65536) : kindS.keys (nEnts ns) = some (ns.map (·.1)) := by
  induction ns with
  | nil => rfl
  | cons a ns ih =>
    have h2 := ih fun u hu => h u (List.mem_cons_of_mem _ hu)
    have ha := h a List.mem_cons_self
    have hok : kindS.ok a.1 = true := by
      show Nat.ble a.1.length 65536 = true
      rw [Nat.ble_eq]; exact ha
    show bnd (some a.1) (fun y => bnd (kindS.keys (nEnts ns)) fun l => cond (kindS.ok y) (some (y :: l)) none) = _
    rw [h2]
    show (cond (kindS.ok a.1) (some (a.1 :: ns.map (·.1))) none) = _
    rw [hok]; rfl
theorem insS_length {α : Type} {le : α → α → Bool} {x : α} : ∀ {l : List α}, (insS le x l).length = l.length + 1
  | [] => rfl
  | y :: l => by
    unfold insS
    cases le x y with
    | true => rfl
    | false => simp [insS_length (l := l)]
theorem isort_length {α : Type} {le : α → α → Bool} : ∀ {l : List α}, (isort le l).length = l.length
  | [] => rfl
  | x :: l => by
    show (insS le x (isort le l)).length = _
    rw [insS_length, isort_length]; rfl
def namesOf (d : Dsk) : List Byts := isort kindS.le (d.now.names.map (·.1))
section
variable {hk : Hook} {A B : Nat → Prop} {I : List Nat} {w0 w w' : AW} {D : Nat} {i i' : DI} {d d' : Dsk} {k k' : Nat} {L L' : Obs} {K : AV → AW → Prop}
theorem s41 (hh : HK hk) (h : Dk A I w0 w D i d k L) (hn : ∀ u ∈ d.now.names, u.1.length ≤ 65536) (hc : d.now.names.length ≤ 65536)
    (hK : ∀ v w', Fr w.size w w' → (rL rS).rd (fz A (dkU D i L)) w' [v] (namesOf d) → (namesOf d ≠ [] → ∃ c, w.size ≤ c ∧ v = .slice c 0 (namesOf d).length (namesOf d).length (some 1) ∧ Box w' c ((namesOf d).map AV.str)) → K v w') : Cl Tryz.prog hk 41 [.ptr D 0] w K := by
  apply in41 (hh.no _ _ _ (by decide) (by decide))
  unfold F41
  refine s62 hh (h.ow.ld 0 rfl rfl) ⟨false, rfl, ifT_f ?_⟩
  simp only [onP]
  refine onM_s (h.ow.ld 0 rfl rfl) ?_
  have hm := h.ow.mem
  have hpos := h.ow.P0.pos
  obtain ⟨hN, _⟩ := h.ow.box (i.n2, .map (nEnts d.now.names)) (by unfold dkL; simp) rfl
  obtain ⟨cl, hN⟩ := hN
  have hN : w.get i.n2 = some (.map (nEnts d.now.names) cl) := hN
  refine in74 (hh.no _ _ _ (by decide) (by decide)) (gd_t rfl (new_of hm fun w8 f8 b8 z8 => ?_))
  have hN8 : w8.get i.n2 = some (.map (nEnts d.now.names) cl) := (f8.old _ (hm.lt _ _ hN)).trans hN
  have hbm : boxMap w8 w.size = some i.n2 := by
    unfold boxMap
    have b8 : w8.get w.size = some (.cells [.map i.n2] w.size w.size false) := b8
    rw [b8]
    simp only [Nat.beq_refl, Bool.true_and]
    rw [beq_ff (by omega)]
    rfl
  have hma : mapAt w8 i.n2 = some (nEnts d.now.names, cl) := by unfold mapAt; rw [hN8]; rfl
  have hkl : (d.now.names.map (·.1)).length = d.now.names.length := by simp
  have hhook : hookS kindS 73 112 w8 [.func 112 [] [.ptr w.size 0]] = some (sortedA w8 kindS (d.now.names.map (·.1))) := by
    show cond (Nat.beq 112 112) (bnd (boxMap w8 w.size) fun r => bnd (mapAt w8 r) fun m => bnd (kindS.keys m.1) fun ks => cond (Nat.ble ks.length 65536) (some (sortedA w8 kindS ks)) none) none = _
    rw [hbm]
    show bnd (mapAt w8 i.n2) (fun m => bnd (kindS.keys m.1) fun ks => cond (Nat.ble ks.length 65536) (some (sortedA w8 kindS ks)) none) = _
    rw [hma]
    show bnd (kindS.keys (nEnts d.now.names)) (fun ks => cond (Nat.ble ks.length 65536) (some (sortedA w8 kindS ks)) none) = _
    rw [keysS hn]
    show cond (Nat.ble (d.now.names.map (·.1)).length 65536) _ _ = _
    rw [show Nat.ble (d.now.names.map (·.1)).length 65536 = true by rw [Nat.ble_eq, hkl]; exact hc]
    rfl
  have hnew : ∀ c, w.size ≤ c → fz A (dkU D i L) c := h.ow.P.new
  have hsd : ∃ v10 w10, sortedA w8 kindS (d.now.names.map (·.1)) = (v10, w10) ∧ (rL rS).rd (fz A (dkU D i L)) w10 [v10] (namesOf d) ∧ Fr w8.size w8 w10 ∧ (namesOf d ≠ [] → ∃ c, w8.size ≤ c ∧ v10 = .slice c 0 (namesOf d).length (namesOf d).length (some 1) ∧ Box w10 c ((namesOf d).map AV.str)) := by
    unfold namesOf
    cases hN : d.now.names.map (·.1) with
    | nil => exact ⟨_, _, rfl, Rp.rd.nil, Fr.refl f8.mem, fun h => absurd rfl h⟩
    | cons a as' =>
      have hb : Box (newCells w8 ((isort kindS.le (a :: as')).map kindS.encA)) w8.size ((isort kindS.le (a :: as')).map AV.str) := by simp [Box, newCells, cellsAO]; exact fun _ _ => rfl
      have hl : (isort kindS.le (a :: as')).length = as'.length + 1 := by rw [isort_length]; rfl
      refine ⟨_, _, rfl, Box.sl hb (hnew _ (by omega)) hl.symm (Chk.strs.2 rfl), Fr.push f8.mem fun cs' f own d e => by cases e; exact Nat.le_refl _, fun _ => ⟨_, Nat.le_refl _, by rw [hl], hb⟩⟩
  obtain ⟨v10, w10, hs10, hrs10, f10, hbx⟩ := hsd
  refine Cl_hook (hh.sorted _ _ _ (by rw [hhook, hs10])) (hK v10 w10 (f8.trans f10 (by omega)) hrs10 fun hne => by obtain ⟨c, h1, h2⟩ := hbx hne; exact ⟨c, by omega, h2⟩)
theorem s17 {v v' : AV} {s s' : Byts} (hh : HK hk) (h : RsB w v s) (h' : RsB w v' s') (hK : K (.bool (s == s')) w) : Cl Tryz.prog hk 17 [v, v'] w K := by
  apply in17 (hh.no _ _ _ (by decide) (by decide))
  exact ⟨_, h.str, _, h'.str, hK⟩
end
end Go.Proofs.YthpjoogmmjikmaaGreatDoor
