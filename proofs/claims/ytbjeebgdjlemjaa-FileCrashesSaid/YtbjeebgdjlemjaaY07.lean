/-
  Names, and what is told of lists, over memory.
  No condition beyond those that each theorem names.
-/
import Derived.Test.YtbjeebgdjlemjaaX07
import Derived.Test.YtbjeebgdjlemjaaB07
set_option linter.unusedSimpArgs false
open Go.Sx
set_option linter.unusedVariables false
namespace Go.Proofs.Ytbjeebgdjlemjaa

/-- A slice of strings. -/
def RsS (w : AW) (v : AV) (l : List Byts) : Prop := Rs w 1 l.length v (l.map AV.str)
theorem RsS.at {w : AW} {v : AV} {l : List Byts} (h : RsS w v l) {i : Nat} (hi : i < l.length) {K : Nat → Nat → Prop} (hK : ∀ b o, ld w b o = some (.str l[i]) → K b o) : atP (idxS 1 v (.int .i64 (i : Int))) K :=
  Rs.at h (by omega) (by omega) fun b o hf _ => hK b o (by
    have h2 := hf 0 (by omega)
    rw [Nat.add_zero] at h2
    rw [h2]
    simp [hi])
theorem keysS {ns : List (Byts × Int)} (h : ∀ u ∈ ns, u.1.length ≤ 65536) : kindS.keys (nEnts ns) = some (ns.map (·.1)) := by
  induction ns with
  | nil => rfl
  | cons a ns ih =>
    have h2 := ih fun u hu => h u (List.mem_cons_of_mem _ hu)
    have ha := h a List.mem_cons_self
    have hok : kindS.ok a.1 = true := by
      show Nat.ble a.1.length 65536 = true
      rw [Nat.ble_eq]; exact ha
    show bnd (some a.1) (fun y => bnd (kindS.keys (nEnts ns)) fun l => cond (kindS.ok y) (some (y :: l)) none) = _
    rw [h2]
    show (cond (kindS.ok a.1) (some (a.1 :: ns.map (·.1))) none) = _
    rw [hok]; rfl
theorem insS_length {α : Type} {le : α → α → Bool} {x : α} : ∀ {l : List α}, (insS le x l).length = l.length + 1
  | [] => rfl
  | y :: l => by
    unfold insS
    cases le x y with
    | true => rfl
    | false => simp [insS_length (l := l)]
theorem isort_length {α : Type} {le : α → α → Bool} : ∀ {l : List α}, (isort le l).length = l.length
  | [] => rfl
  | x :: l => by
    show (insS le x (isort le l)).length = _
    rw [insS_length, isort_length]; rfl

section
variable {hk : Hook} {w0 w : AW} {D : Nat} {d : Dsk} {k : Nat} {X : List Nat} {K : AV → AW → Prop}
/-- Names: the names, sorted. -/
def namesOf (d : Dsk) : List Byts := isort kindS.le (d.now.names.map (·.1))
theorem lNames (hh : HK hk) (h : Ls w0 w D d k X) (hn : ∀ u ∈ d.now.names, u.1.length ≤ 65536) (hc : d.now.names.length ≤ 65536)
    (hK : ∀ v w', Fr w.size w w' → RsS w' v (namesOf d) → (∀ c, blk v = some c → w.size ≤ c ∧ Box w' c ((namesOf d).map AV.str)) → K v w') : Cl Try.prog hk 24 [.ptr D 0] w K := by
  obtain ⟨n1, f1, n2, f2, sv, hd⟩ := h.dk
  apply in24 (hh.no _ _ _ (by decide) (by decide))
  unfold F24
  refine s47 hh hd.box ⟨false, rfl, ifT_f ?_⟩
  simp only [onP]
  refine onM_s (v := .map n2) (by rw [hd.box.ld]; rfl) ?_
  refine in56 (hh.no _ _ _ (by decide) (by decide)) (gd_t rfl (new_of h.mem fun w8 f8 b8 z8 => ?_))
  have hd8 := hd.fr h.mem f8
  have hpos := Ls.pos' h
  obtain ⟨cl, hN8⟩ := hd8.N2
  have hbm : boxMap w8 w.size = some n2 := by
    unfold boxMap
    have b8 : w8.get w.size = some (.cells [.map n2] w.size w.size false) := b8
    rw [b8]
    simp only [Nat.beq_refl, Bool.true_and]
    rw [beq_ff (by omega)]
    rfl
  have hkl : (d.now.names.map (·.1)).length = d.now.names.length := by simp
  have hhook : hookS kindS 55 76 w8 [.func 76 [] [.ptr w.size 0]] = some (sortedA w8 kindS (d.now.names.map (·.1))) := by
    show cond (Nat.beq 76 76) (bnd (boxMap w8 w.size) fun r => bnd (mapAt w8 r) fun m => bnd (kindS.keys m.1) fun ks => cond (Nat.ble ks.length 65536) (some (sortedA w8 kindS ks)) none) none = _
    rw [hbm]
    show bnd (mapAt w8 n2) (fun m => bnd (kindS.keys m.1) fun ks => cond (Nat.ble ks.length 65536) (some (sortedA w8 kindS ks)) none) = _
    rw [mapAt_of hN8]
    show bnd (kindS.keys (nEnts d.now.names)) (fun ks => cond (Nat.ble ks.length 65536) (some (sortedA w8 kindS ks)) none) = _
    rw [keysS hn]
    show cond (Nat.ble (d.now.names.map (·.1)).length 65536) _ _ = _
    rw [show Nat.ble (d.now.names.map (·.1)).length 65536 = true by rw [Nat.ble_eq, hkl]; exact hc]
    rfl
  have hsd : ∃ v10 w10, sortedA w8 kindS (d.now.names.map (·.1)) = (v10, w10) ∧ RsS w10 v10 (namesOf d) ∧ Fr w8.size w8 w10 ∧ ∀ c, blk v10 = some c → w8.size ≤ c ∧ Box w10 c ((namesOf d).map AV.str) := by
    unfold namesOf
    cases hN : d.now.names.map (·.1) with
    | nil => exact ⟨_, _, rfl, Rs.nil, Fr.refl f8.mem, fun c h => by cases h⟩
    | cons a as' =>
      have hb : Box (newCells w8 ((isort kindS.le (a :: as')).map kindS.encA)) w8.size ((isort kindS.le (a :: as')).map AV.str) := by simp [Box, newCells, cellsAO]; exact fun _ _ => rfl
      refine ⟨_, _, rfl, ?_, Fr.push f8.mem fun cs' f own d e => by cases e; exact Nat.le_refl _, fun c hc => ?_⟩
      · have hl : (isort kindS.le (a :: as')).length = as'.length + 1 := by rw [isort_length]; rfl
        exact .inr ⟨w8.size, 0, _, _, _, by rw [hl], hb.cells, by simp, by rw [List.drop_zero, List.take_of_length_le (by simp)]⟩
      · cases hc; exact ⟨Nat.le_refl _, hb⟩
  obtain ⟨v10, w10, hs10, hrs10, f10, hbx⟩ := hsd
  refine Cl_hook (hh.sorted _ _ _ (by rw [hhook, hs10])) (hK v10 w10 (f8.trans f10 (by omega)) hrs10 fun c hc => ⟨by have := (hbx c hc).1; omega, (hbx c hc).2⟩)

/-- truths. -/
theorem s27 {n : Nat} (hh : HK hk) (hm : Mem w) (hw : 0 < w.size) (hn : n < 2 ^ 40) (hK : ∀ v w', Fr w.size w w' → RsT w' v (List.replicate n true) → (∀ c, blk v = some c → c = w.size) → K v w') : Cl Try.prog hk 27 [.int .i64 (n : Int)] w K := by
  apply in27 (hh.no _ _ _ (by decide) (by decide))
  unfold F27
  refine onM_s (v := n) rfl (onM_s (v := n) rfl (gd_t ?_ (new_of hm fun w5 f5 b5 z5 => ?_)))
  · rw [show Nat.ble n n = true from ble_of (Nat.le_refl _), show Nat.ble (n * 1) (2 ^ 47) = true from ble_of (by omega), show Nat.blt n (2 ^ 63) = true by rw [Nat.blt_eq]; omega]; rfl
  rw [repl_eq] at b5
  refine loopP_ind (fun m l w8 => ∃ i : Nat, i ≤ n ∧ m = n - i ∧ l = [.int .i64 i] ∧ Fr w.size w w8 ∧ w.size < w8.size ∧ Box w8 w.size (List.replicate i (.bool true) ++ List.replicate (n - i) (.bool false))) ?_
    ⟨0, Nat.zero_le _, rfl, rfl, f5, by omega, by simpa using b5⟩
  rintro m l w8 ⟨i, hi, rfl, rfl, f8, z8, b8⟩ R ih
  refine ⟨_, rfl, fun _ => ifT_d (fun hc => ?_) fun hc => ?_⟩
  · have hin : i < n := by omega
    refine idx0 hin (b8.put' f8.mem (by omega) (by simp; omega) fun w13 c13 b13 z13 => ?_)
    refine ih (n - (i + 1)) (by omega) _ _ ⟨i + 1, by omega, rfl, by rw [wi_eq (by omega) (by omega)]; rfl, f8.trans (c13.fr (n := w.size) (by omega) (by simp)) (Nat.le_refl _), by omega, ?_⟩
    have e : listPut (List.replicate i (AV.bool true) ++ List.replicate (n - i) (.bool false)) i [.bool true] = List.replicate (i + 1) (.bool true) ++ List.replicate (n - (i + 1)) (.bool false) := by
      simp only [listPut]
      rw [List.take_left' (by simp), List.drop_append]
      simp [List.replicate_succ']
      omega
    rw [e] at b13; exact b13
  · have hin : i = n := by omega
    subst hin
    refine hK _ _ f8 ?_ fun c hc => by cases hc; rfl
    simp only [Nat.sub_self, List.replicate_zero, List.append_nil] at b8
    have hl : (List.replicate i true).length = i := by simp
    exact .inr ⟨w.size, 0, _, _, _, by rw [hl], b8.cells, by simp, by simp⟩

/-- SameTexts. -/
theorem s29 {v v' : AV} {l l' : List Byts} (hh : HK hk) (h : RsS w v l) (h' : RsS w v' l') (hl : l.length < 2 ^ 40) (hK : K (.bool (decide (l = l'))) w) : Cl Try.prog hk 29 [v, v'] w K := by
  apply in29 (hh.no _ _ _ (by decide) (by decide))
  unfold F29
  refine ⟨_, Rs.len h, _, Rs.len h', ifT_nd (fun hne => ?_) fun heq => ?_⟩
  · have : l ≠ l' := fun e => hne (by rw [e])
    rw [decide_eq_false this] at hK; exact hK
  · have hll : l.length = l'.length := by omega
    refine loopP_ind (fun m lv w6 => ∃ i : Nat, i ≤ l.length ∧ m = l.length - i ∧ lv = [.int .i64 i] ∧ w6 = w ∧ l.take i = l'.take i) ?_ ⟨0, Nat.zero_le _, rfl, rfl, rfl, by simp⟩
    rintro m lv w6 ⟨i, hi, rfl, rfl, rfl, he⟩ R ih
    refine ⟨_, rfl, fun _ => ⟨_, Rs.len h, ifT_d (fun hc => ?_) fun hc => ?_⟩⟩
    · have hil : i < l.length := by omega
      refine h.at hil fun b o hld => ⟨_, hld, h'.at (by omega) fun b o hld => ⟨_, hld, ?_⟩⟩
      cases hq : (l[i] == l'[i]'(by omega)) with
      | true =>
        refine ifT_f (ih (l.length - (i + 1)) (by omega) _ _ ⟨i + 1, by omega, rfl, by rw [wi_eq (by omega) (by omega)]; rfl, rfl, ?_⟩)
        have hq' : l[i] = l'[i]'(by omega) := by simpa using hq
        rw [← List.take_append_getElem hil, ← List.take_append_getElem (show i < l'.length by omega), he, hq']
      | false =>
        have hq' : l[i] ≠ l'[i]'(by omega) := by simpa using hq
        have : l ≠ l' := fun e => hq' (by subst e; rfl)
        rw [decide_eq_false this] at hK
        exact ifT_t hK
    · have hil : i = l.length := by omega
      subst hil
      rw [List.take_length, hll, List.take_length] at he
      rw [decide_eq_true he] at hK; exact hK
end
end Go.Proofs.Ytbjeebgdjlemjaa
