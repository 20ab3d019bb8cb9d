/-
  What a law of chapter 7 asks of the disk besides, over memory.
  No condition beyond those that each theorem names.
-/
import Derived.Test.YtbjeebgdjlemjaaI07
import Derived.Test.YtbjeebgdjlemjaaB07
import Derived.Test.YtbjeebgdjlemjaaSxr
set_option linter.unusedSimpArgs false
open Go.Sx
set_option linter.unusedVariables false
namespace Go.Proofs.Ytbjeebgdjlemjaa
theorem repl_eq (n : Nat) (z : AV) : repl n [z] = List.replicate n z := by
  induction n with
  | zero => rfl
  | succ n ih => show [z] ++ repl n [z] = _; rw [ih]; rfl
theorem keysS {ns : List (Byts × Int)} (h : ∀ u ∈ ns, u.1.length ≤ 65536) : kindS.keys (nEnts ns) = some (ns.map (·.1)) := by
  induction ns with
  | nil => rfl
  | cons a ns ih =>
    have h2 := ih fun u hu => h u (List.mem_cons_of_mem _ hu)
    have ha := h a List.mem_cons_self
    have hok : kindS.ok a.1 = true := by
      show Nat.ble a.1.length 65536 = true
      rw [Nat.ble_eq]; exact ha
    show bnd (some a.1) (fun y => bnd (kindS.keys (nEnts ns)) fun l => cond (kindS.ok y) (some (y :: l)) none) = _
    rw [h2]
    show (cond (kindS.ok a.1) (some (a.1 :: ns.map (·.1))) none) = _
    rw [hok]; rfl
theorem insS_length {α : Type} {le : α → α → Bool} {x : α} : ∀ {l : List α}, (insS le x l).length = l.length + 1
  | [] => rfl
  | y :: l => by
    unfold insS
    cases le x y with
    | true => rfl
    | false => simp [insS_length (l := l)]
theorem isort_length {α : Type} {le : α → α → Bool} : ∀ {l : List α}, (isort le l).length = l.length
  | [] => rfl
  | x :: l => by
    show (insS le x (isort le l)).length = _
    rw [insS_length, isort_length]; rfl
def namesOf (d : Dsk) : List Byts := isort kindS.le (d.now.names.map (·.1))
def fillB (b : UInt8) : Byts := List.replicate 64 b
theorem boxB {w : AW} {b n : Nat} {s : Byts} {ex : Option Nat} (h : Box w b (cellsOfBytes s)) (hl : s.length = n) (hx : ex = none ∨ ex = some 1 := by simp) : RsB w (.slice b 0 n n ex) s := by
  subst hl
  exact BS.rs (n0 := 0) (.inr ⟨b, ex, rfl, hx, Nat.zero_le _, h⟩)
section
variable {hk : Hook} {A B : Nat → Prop} {I : List Nat} {w0 w w' : AW} {D : Nat} {i i' : DI} {d d' : Dsk} {k k' : Nat} {L L' : Obs} {K : AV → AW → Prop}
/-- Names: the names, sorted. -/
theorem s24 (hh : HK hk) (h : Dk A I w0 w D i d k L) (hn : ∀ u ∈ d.now.names, u.1.length ≤ 65536) (hc : d.now.names.length ≤ 65536)
    (hK : ∀ v w', Fr w.size w w' → (rL rS).rd (fz A (dkU D i L)) w' [v] (namesOf d) → (namesOf d ≠ [] → ∃ c, w.size ≤ c ∧ v = .slice c 0 (namesOf d).length (namesOf d).length (some 1) ∧ Box w' c ((namesOf d).map AV.str)) → K v w') : Cl Try.prog hk 24 [.ptr D 0] w K := by
  apply in24 (hh.no _ _ _ (by decide) (by decide))
  unfold F24
  refine s47 hh (h.ow.ld 0 rfl rfl) ⟨false, rfl, ifT_f ?_⟩
  simp only [onP]
  refine onM_s (h.ow.ld 0 rfl rfl) ?_
  have hm := h.ow.mem
  have hpos := h.ow.P0.pos
  obtain ⟨hN, _⟩ := h.ow.box (i.n2, .map (nEnts d.now.names)) (by unfold dkL; simp) rfl
  obtain ⟨cl, hN⟩ := hN
  have hN : w.get i.n2 = some (.map (nEnts d.now.names) cl) := hN
  refine in56 (hh.no _ _ _ (by decide) (by decide)) (gd_t rfl (new_of hm fun w8 f8 b8 z8 => ?_))
  have hN8 : w8.get i.n2 = some (.map (nEnts d.now.names) cl) := (f8.old _ (hm.lt _ _ hN)).trans hN
  have hbm : boxMap w8 w.size = some i.n2 := by
    unfold boxMap
    have b8 : w8.get w.size = some (.cells [.map i.n2] w.size w.size false) := b8
    rw [b8]
    simp only [Nat.beq_refl, Bool.true_and]
    rw [beq_ff (by omega)]
    rfl
  have hma : mapAt w8 i.n2 = some (nEnts d.now.names, cl) := by unfold mapAt; rw [hN8]; rfl
  have hkl : (d.now.names.map (·.1)).length = d.now.names.length := by simp
  have hhook : hookS kindS 55 76 w8 [.func 76 [] [.ptr w.size 0]] = some (sortedA w8 kindS (d.now.names.map (·.1))) := by
    show cond (Nat.beq 76 76) (bnd (boxMap w8 w.size) fun r => bnd (mapAt w8 r) fun m => bnd (kindS.keys m.1) fun ks => cond (Nat.ble ks.length 65536) (some (sortedA w8 kindS ks)) none) none = _
    rw [hbm]
    show bnd (mapAt w8 i.n2) (fun m => bnd (kindS.keys m.1) fun ks => cond (Nat.ble ks.length 65536) (some (sortedA w8 kindS ks)) none) = _
    rw [hma]
    show bnd (kindS.keys (nEnts d.now.names)) (fun ks => cond (Nat.ble ks.length 65536) (some (sortedA w8 kindS ks)) none) = _
    rw [keysS hn]
    show cond (Nat.ble (d.now.names.map (·.1)).length 65536) _ _ = _
    rw [show Nat.ble (d.now.names.map (·.1)).length 65536 = true by rw [Nat.ble_eq, hkl]; exact hc]
    rfl
  have hnew : ∀ c, w.size ≤ c → fz A (dkU D i L) c := h.ow.P.new
  have hsd : ∃ v10 w10, sortedA w8 kindS (d.now.names.map (·.1)) = (v10, w10) ∧ (rL rS).rd (fz A (dkU D i L)) w10 [v10] (namesOf d) ∧ Fr w8.size w8 w10 ∧ (namesOf d ≠ [] → ∃ c, w8.size ≤ c ∧ v10 = .slice c 0 (namesOf d).length (namesOf d).length (some 1) ∧ Box w10 c ((namesOf d).map AV.str)) := by
    unfold namesOf
    cases hN : d.now.names.map (·.1) with
    | nil => exact ⟨_, _, rfl, Rp.rd.nil, Fr.refl f8.mem, fun h => absurd rfl h⟩
    | cons a as' =>
      have hb : Box (newCells w8 ((isort kindS.le (a :: as')).map kindS.encA)) w8.size ((isort kindS.le (a :: as')).map AV.str) := by simp [Box, newCells, cellsAO]; exact fun _ _ => rfl
      have hl : (isort kindS.le (a :: as')).length = as'.length + 1 := by rw [isort_length]; rfl
      refine ⟨_, _, rfl, Box.sl hb (hnew _ (by omega)) hl.symm (Chk.strs.2 rfl), Fr.push f8.mem fun cs' f own d e => by cases e; exact Nat.le_refl _, fun _ => ⟨_, Nat.le_refl _, by rw [hl], hb⟩⟩
  obtain ⟨v10, w10, hs10, hrs10, f10, hbx⟩ := hsd
  refine Cl_hook (hh.sorted _ _ _ (by rw [hhook, hs10])) (hK v10 w10 (f8.trans f10 (by omega)) hrs10 fun hne => by obtain ⟨c, h1, h2⟩ := hbx hne; exact ⟨c, by omega, h2⟩)
/-- SameBytes. -/
theorem s19 {v v' : AV} {s s' : Byts} (hh : HK hk) (h : RsB w v s) (h' : RsB w v' s') (hK : K (.bool (s == s')) w) : Cl Try.prog hk 19 [v, v'] w K := by
  apply in19 (hh.no _ _ _ (by decide) (by decide))
  exact ⟨_, h.str, _, h'.str, hK⟩
/-- filled. -/
theorem s12 {b : UInt8} (hh : HK hk) (hm : Mem w) (hw : 0 < w.size) (hK : ∀ v w', Fr w.size w w' → Box w' w.size (cellsOfBytes (fillB b)) → v = .slice w.size 0 64 64 none → K v w') : Cl Try.prog hk 12 [.int .u8 b.toNat, .int .i64 0] w K := by
  apply in12 (hh.no _ _ _ (by decide) (by decide))
  unfold F12
  rw [show imax (imin (wi (64 + 0)) 200) 0 = ((64 : Nat) : Int) by decide]
  refine onM_s (v := 64) rfl (onM_s (v := 64) rfl (gd_t rfl (new_of hm fun w5 f5 b5 z5 => ?_)))
  rw [repl_eq] at b5
  refine loopP_ind (fun m l w8 => ∃ (i : Nat) (t : Byts), i ≤ 64 ∧ m = 64 - i ∧ l = [.int .i64 i] ∧ Fr w.size w w8 ∧ w.size < w8.size ∧ Box w8 w.size (cellsOfBytes t) ∧ t.length = 64 ∧ ∀ j, j < i → t[j]? = some b) ?_
    ⟨0, List.replicate 64 0, Nat.zero_le _, rfl, rfl, f5, by omega, by rw [show cellsOfBytes (List.replicate 64 0) = List.replicate 64 (.int .u8 0) by simp [cellsOfBytes]]; exact b5, by simp, fun j hj => by omega⟩
  rintro m l w8 ⟨i, t, hi, rfl, rfl, f8, z8, b8, htl, ht⟩ R ih
  refine ⟨_, rfl, fun _ => ⟨_, rfl, ifT_d (fun hc => ?_) fun hc => ?_⟩⟩
  · refine idx0 (by omega) (b8.put' f8.mem (by omega) (by rw [cellsOfBytes_length]; simp; omega) fun w13 c13 b13 z13 => ?_)
    rw [bytes_set _ _ _ (by omega)] at b13
    refine ih (64 - (i + 1)) (by omega) _ _ ⟨i + 1, t.set i b, by omega, rfl, by rw [wi_eq (by omega) (by omega)]; rfl, f8.trans (c13.fr (n := w.size) (by omega) (by simp)) (Nat.le_refl _), by omega, b13, by simp [htl], fun j hj => ?_⟩
    rw [List.getElem?_set]
    by_cases hij : i = j
    · subst hij; rw [if_pos rfl, if_pos (by omega)]
    · rw [if_neg hij]; exact ht j (by omega)
  · have e : t = fillB b := by
      apply List.ext_getElem?
      intro j
      by_cases hj : j < 64
      · rw [ht j (by omega)]; unfold fillB; rw [List.getElem?_replicate, if_pos hj]
      · rw [List.getElem?_eq_none (by omega), List.getElem?_eq_none (by simp [fillB]; omega)]
    rw [e] at b8
    exact hK _ _ f8 b8 rfl
/-- Read, of a file of one sector: the answer lies in a block of its own. -/
theorem s18o {a s : Byts} {f : Int} (hh : HK hk) (h : Dk A I w0 w D i d k L) (hg : nget d.now.names a = some f) (hd : d.down = false) (hs : d.now.files f = [s]) (hK : ∀ b w', Fr w.size w w' → w.size ≤ b → Box w' b (cellsOfBytes s) → K (.tup [.slice b 0 64 64 (some 1), .int .i64 0]) w') : Cl Try.prog hk 18 [.ptr D 0, .str a] w K := by
  apply in18 (hh.no _ _ _ (by decide) (by decide))
  unfold F18
  refine s40 hh h ⟨_, _, rfl, ?_⟩
  have hm := h.ow.mem
  rw [hg]
  refine ifT_nd (fun h => absurd rfl h) fun _ => ?_
  simp only [Option.getD_some, onP]
  refine ⟨d.down, h.ow.ld 0 rfl rfl, ?_⟩
  rw [hd]
  obtain ⟨v, hlk, hsl⟩ := h.f2.look f
  refine ifT_f (onM_s (h.ow.ld 0 rfl rfl) (onM_s ((h.ow.look 4 rfl (h.f2.like _)).trans hlk) ⟨_, hsl.len', ?_⟩))
  have hx64 : s.length = 64 := (h.V.now f).2 s (by rw [hs]; simp)
  rw [hs] at hsl ⊢
  have pv : Pv (fz A (dkU D i L)) w := h.ow.P
  have hpos := pv.pos
  refine loopP_ind (fun m lv w16 => (m = 1 ∧ lv = [.nilslice, .int .i64 0] ∧ w16 = w) ∨ (m = 0 ∧ ∃ b, lv = [.slice b 0 64 64 (some 1), .int .i64 1] ∧ Fr w.size w w16 ∧ w.size ≤ b ∧ Box w16 b (cellsOfBytes s))) ?_ (.inl ⟨rfl, rfl, rfl⟩)
  rintro m lv w16 (⟨rfl, rfl, rfl⟩ | ⟨rfl, b, rfl, f16, hb, hbx⟩) R ih
  · refine ⟨_, _, rfl, fun _ => ifT_d (fun hc => ?_) fun hc => absurd (by simp) hc⟩
    refine hsl.at (i := 0) (by simp) fun bb oo cs hcs _ hN => ?_
    obtain ⟨hcs, _⟩ := hcs
    have hcs : cs = cellsOfBytes s := hcs
    subst hcs
    refine onM_s hN (pv.st.new' fun b22 w23 so23 x23 => ?_)
    simp only [onA]
    have hcl : (cellsOfBytes s).length = 64 := by rw [cellsOfBytes_length, hx64]
    have hz64 : z64.length = 64 := by rw [z64_eq, cellsOfBytes_length]; simp [zsec]
    refine gd_t (ok_bytes _) (gd_t (by rw [hcl]; rfl) (so23.put 0 rfl (by rw [hcl, hz64]; omega) fun w25 so25 x25 => ?_))
    rw [listPut_all (by rw [hz64, hcl])] at so25
    have hb25 : Box w25 b22 (cellsOfBytes s) := (so25.box (b22, .row (cellsOfBytes s)) (by simp [stN]) rfl).1
    refine onM_s (v := .slice b22 (0 + 0 * 1) (64 - 0) (64 - 0) none) rfl ?_
    have hrx : Rs w25 1 64 (.slice b22 (0 + 0 * 1) (64 - 0) (64 - 0) none) (cellsOfBytes s) := .inr ⟨b22, 0, 64, none, _, rfl, hb25.cells, by omega, by rw [List.drop_zero, List.take_of_length_le (by omega)]⟩
    have f25 := so25.fr
    have f26 : Fr w25.size w25 (newCells w25 (cellsOfBytes s)) := Fr.push f25.mem fun cs' f own d e => by cases e; exact Nat.le_refl _
    refine onE_s (v := .slice w25.size 0 64 64 (some 1)) (w := newCells w25 (cellsOfBytes s)) (by simp only [appS, hrx.read, Option.bind_some]; rfl) (ih 0 (by omega) _ _ (.inr ⟨rfl, w25.size, by rw [show wi (0 + 1) = 1 from by decide], f25.trans f26 f25.size, f25.size, by simp [Box, newCells, cellsAO]⟩))
  · exact ⟨_, _, rfl, fun _ => ifT_d (fun hc => absurd hc (by simp)) fun hc => hK b w16 f16 hb hbx⟩
end
end Go.Proofs.Ytbjeebgdjlemjaa
