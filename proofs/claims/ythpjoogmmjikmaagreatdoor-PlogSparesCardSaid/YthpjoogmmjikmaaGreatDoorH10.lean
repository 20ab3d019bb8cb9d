/-
  A segment's calls, over memory (the second part).
  No condition beyond those that each theorem names.
-/
import Derived.Test.YthpjoogmmjikmaaGreatDoorG10
set_option linter.unusedSimpArgs false
open Go.Sx
set_option linter.unusedVariables false
set_option linter.unusedSimpArgs false
namespace Go.Proofs.YthpjoogmmjikmaaGreatDoor
section
variable {hk : Hook} {A B : Nat → Prop} {I : List Nat} {w0 w w' : AW} {D S : Nat} {i i' : DI} {d d' : Dsk} {k k' : Nat} {L L' : Obs} {K : AV → AW → Prop} {nm bs : Byts} {es : List Int} {bv ev : AV} {br : Bool} {ef : Nat} {eo : Ob}
theorem s89b {v : AV} {s : Byts} (hh : HK hk) (hm : Mem w) (hw : 0 < w.size) (h : RsB w v s) (hv : v ≠ .nilslice) (hs : s.length < 2 ^ 30) (hK : ∀ c ex w', Fr w.size w w' → w.size ≤ c → Box w' c (cellsOfBytes s) → (ex = none ∨ ex = some 1) → K (.slice c 0 s.length s.length ex) w') : Cl Tryz.prog hk 89 [v] w K := by
  apply in89 (hh.no _ _ _ (by decide) (by decide))
  unfold F89
  have hsl : ∃ b o n cap ex, v = .slice b o n cap ex := by
    rcases h with ⟨rfl, _⟩ | ⟨b, o, cap, ex, al, rfl, _⟩
    · exact absurd rfl hv
    · exact ⟨_, _, _, _, _, rfl⟩
  obtain ⟨b, o, n, cap, ex, rfl⟩ := hsl
  refine ⟨false, by kernel_rfl, ifT_f (new_of hm fun w3 f3 b3 z3 => ?_)⟩
  have h3 : RsB w3 (.slice b o n cap ex) s := RsB.fr h hm f3 (Nat.le_refl _)
  have hx := Rs.src h3
  by_cases hn : s.length = 0
  · have : s = [] := by simpa using hn
    subst this
    refine onE_s (v := .slice w.size 0 0 0 none) (w := w3) ?_ (hK w.size none w3 f3 (Nat.le_refl _) b3 (.inl rfl))
    simp only [appS, hx.read, Option.bind_some]; rfl
  · have f1 : Fr w3.size w3 (newCells w3 (cellsOfBytes s)) := Fr.push f3.mem fun cs' f own d e => by cases e; exact Nat.le_refl _
    have b1 : Box (newCells w3 (cellsOfBytes s)) w3.size (cellsOfBytes s) := by simp [Box, newCells, cellsAO]
    refine onE_s (v := .slice w3.size 0 s.length s.length (some 1)) (w := newCells w3 (cellsOfBytes s)) ?_ (hK _ _ _ (f3.trans f1 (by omega)) (by omega) b1 (.inr rfl))
    have e0 : Nat.ble s.length 0 = false := by
      cases he : Nat.ble s.length 0 with
      | false => rfl
      | true => rw [Nat.ble_eq] at he; omega
    have e1 : Nat.blt ((2 * s.length + 1000) * 1) Sx.room = true := by rw [Nat.blt_eq]; unfold Sx.room; omega
    have e2 : Nat.blt s.length (2 ^ 62) = true := by rw [Nat.blt_eq]; omega
    have e4 : takeCells ([] : List AV) 0 (0 * 1) = some [] := rfl
    simp only [appS, hx.read, Option.bind_some, beq_ff hn, cond_false, hx.ok, guardO, e0, e1, e2, Bool.and_self, cond_true, growA, b3.cells, e4, List.nil_append, Nat.zero_add]
    rfl
theorem s90 {i0 : Nat} (hh : HK hk) (h3 : 0 < i0 → ld w S 3 = some ev) (he : 0 < i0 → RsI w ev es) (hi : i0 ≤ es.length) (hi2 : i0 < 2 ^ 60) (hK : K (.int .i64 (if i0 = 0 then 0 else es.getD (i0 - 1) 0)) w) : Cl Tryz.prog hk 90 [.ptr S 0, .int .i64 (i0 : Int)] w K := by
  apply in90 (hh.no _ _ _ (by decide) (by decide))
  unfold F90
  refine ifT_d (fun hc => ?_) fun hc => ?_
  · have : i0 = 0 := by omega
    rw [if_pos this] at hK; exact hK
  · have h0 : i0 ≠ 0 := by omega
    rw [if_neg h0] at hK
    simp only [onP]
    refine onM_s (h3 (by omega)) ?_
    rw [show wi ((i0 : Int) - 1) = ((i0 - 1 : Nat) : Int) by rw [wi_eq (by omega) (by omega)]; omega]
    refine (he (by omega)).atN (by omega) fun b o hld => ⟨es[i0 - 1], hld, ?_⟩
    rw [show es.getD (i0 - 1) 0 = es[i0 - 1] by rw [List.getD_eq_getElem?_getD, List.getElem?_eq_getElem (by omega)]; rfl] at hK
    exact hK
theorem sl_some {b o n cap : Nat} {ex : Option Nat} {lo hi : Option AV} : slS 1 (.slice b o n cap ex) lo hi none ≠ some .nilslice := by
  intro h
  simp only [slS, Option.bind_eq_some_iff] at h
  obtain ⟨_, _, _, _, _, _, h⟩ := h
  have key : ∀ (q : Bool) (x : AV), guardO q (some x) = some .nilslice → x = .nilslice := by
    intro q x; cases q <;> simp [guardO]
  have := key _ _ h
  cases this
theorem s53 {i0 st en : Nat} (hh : HK hk) (hm : Mem w) (hw : 0 < w.size) (h0 : ld w S 0 = some (.ptr D 0)) (h2 : ld w S 2 = some bv) (h3 : ld w S 3 = some ev) (h4 : ld w S 4 = some (.bool br)) (hbs : (rL rU).rd A w [bv] bs) (hes : RsI w ev es) (hbv : bv ≠ .nilslice)
    (hi : i0 < es.length) (hi2 : es.length < 2 ^ 60) (hs : (if i0 = 0 then 0 else es.getD (i0 - 1) 0) = (st : Int)) (hen : es[i0] = (en : Int)) (h1 : st + 4 ≤ en) (hel : en ≤ bs.length) (hbl : bs.length < 2 ^ 30)
    (hK : ∀ c ex w', Fr w.size w w' → w.size ≤ c → Box w' c (cellsOfBytes ((bs.take en).drop (st + 4))) → (ex = none ∨ ex = some 1) → K (.tup [.slice c 0 ((bs.take en).drop (st + 4)).length ((bs.take en).drop (st + 4)).length ex, .int .i64 0]) w') : Cl Tryz.prog hk 53 [.ptr S 0, .int .i64 (i0 : Int)] w K := by
  apply in53 (hh.no _ _ _ (by decide) (by decide))
  unfold F53
  refine s83 (D := D) (br := br) hh h0 h4 ⟨_, rfl, ?_⟩
  refine ifT_d (fun hc => ?_) fun _ => ifT_d (fun hc => absurd hc (by omega)) fun _ => ?_
  · cases br <;> simp at hc
  simp only [onP]
  refine onM_s h3 ⟨_, hes.len, ifT_d (fun hc => absurd hc (by omega)) fun _ => onM_s h2 (onM_s h3 (hes.atN hi fun b o hld => ⟨es[i0], hld, ?_⟩))⟩
  refine s90 (ev := ev) (es := es) hh (fun _ => h3) (fun _ => hes) (by omega) (by omega) ⟨_, rfl, hld, h3, h2, ?_⟩
  rw [hs, hen, show wi ((st : Int) + 4) = ((st + 4 : Nat) : Int) by rw [wi_eq (by omega) (by omega)]; push_cast; rfl]
  obtain ⟨part, hsl, hpart⟩ := hbs.cut (i := st + 4) (j := en) h1 hel (.inl rfl) (.inl rfl)
  have hne : part ≠ .nilslice := by
    intro e
    rw [e] at hsl
    obtain ⟨all, g1, g2⟩ := hbs.rs
    rcases g1 with ⟨rfl, _⟩ | ⟨b, o, cap, ex, al, rfl, _⟩
    · exact hbv rfl
    · exact sl_some hsl
  refine onM_s hsl (s89b hh hm hw hpart.rsB hne (by simp; omega) fun c ex w' f1 g1 b1 g2 => hK c ex w' f1 g1 b1 g2)
end
end Go.Proofs.YthpjoogmmjikmaaGreatDoor
