/-
  What the functions of this chapter do.
  No condition beyond those that each theorem names.
-/
import Derived.Test.YtcmkgjaclhpafaaF22
import Derived.Test.YtcmkgjaclhpafaaSxp
open Go.Sx
set_option linter.unusedVariables false
namespace Go.Proofs.Ytcmkgjaclhpafaa

def cL : Code → Code | .seq a _ => a | c => c
def cR : Code → Code | .seq _ b => b | c => c
def cB : Code → Code | .block _ b => b | c => c
def cA : Code → Code | .rangeFunc _ _ a _ => a | c => c
def cY : Code → Code | .rangeFunc _ _ _ b => b | c => c
noncomputable def b28 : Code := (Try.f28.body).getD .skip
noncomputable def rf28 : Code := cB (cR (cL (cR b28)))
theorem body28 : Try.f28.body = some (.seq (cL b28) (.seq (.seq (cL (cL (cR b28))) (.block 0 (.rangeFunc (.tmp 6) #[7] (cA rf28) (.block 1 (cB (cY rf28)))))) (.seq (cL (cR (cR b28))) .ret))) := by kernel_rfl

abbrev u : AV := Go.Sx.undef
theorem r0_28 (hk : Hook) (sv : AV) (w : AW) (K : AExit → Tm → AW → Prop) : codeS Try.prog hk 13 .lf (cL b28) [.nilslice, sv, u, u, u, u, u, u, u, u, u, u, u] w K = K .normal [.nilslice, sv, .ptr w.size 0, u, .nilslice, u, u, u, u, u, u, u, u] (newCells w [.nilslice]) := by kernel_rfl
theorem r1_28 (hk : Hook) (sv p : AV) (w : AW) (K : AExit → Tm → AW → Prop) : codeS Try.prog hk 13 .lf (cL (cL (cR b28))) [.nilslice, sv, p, u, .nilslice, u, u, u, u, u, u, u, u] w K = K .normal [.nilslice, sv, p, u, .nilslice, u, sv, u, u, u, u, u, u] w := by kernel_rfl
theorem r2_28 (hk : Hook) (sv p x : AV) (w : AW) (K : AExit → Tm → AW → Prop) : codeS Try.prog hk 13 .lf (cA rf28) (setParams (#[7].toList.zip [x]) [.nilslice, sv, p, u, .nilslice, u, sv, u, u, u, u, u, u]) w K = K .normal [.nilslice, sv, p, u, .nilslice, x, sv, x, u, u, u, u, u] w := by kernel_rfl
theorem r3_28 (hk : Hook) (sv : AV) (b : Nat) (x : Int) (w : AW) (K : AExit → Tm → AW → Prop) : codeS Try.prog hk 13 (.bl .lf) (.block 1 (cB (cY rf28))) [.nilslice, sv, .ptr b 0, u, .nilslice, .int .i64 x, sv, .int .i64 x, u, u, u, u, u] w K =
    onM (ld w b 0) fun v => new w [.int .i64 x] fun c w1 => onE (appS 1 8 w1 v (.slice c 0 1 1 none)) fun r w2 => gd (okCell r) (onM (AW.putCells w2 b 0 [r]) fun w3 => K .normal [.nilslice, sv, .ptr b 0, u, .nilslice, .int .i64 x, sv, .int .i64 x, v, .int .i64 x, .slice c 0 1 1 none, r, u] w3) := by kernel_rfl
theorem r4_28 (hk : Hook) (sv : AV) (b : Nat) (w : AW) (K : AExit → Tm → AW → Prop) : codeS Try.prog hk 13 .lf (cL (cR (cR b28))) [.nilslice, sv, .ptr b 0, u, .nilslice, u, sv, u, u, u, u, u, u] w K = onM (ld w b 0) fun v => K .normal [.nilslice, sv, .ptr b 0, u, v, u, sv, u, u, u, u, u, v] w := by kernel_rfl


/-- The closure of slices.Values hands on each item, as long as it is told to. -/
theorem s27 {hk : Hook} {w : AW} {y : AV} {b : Nat} {v : AV} {l : List Int} {K : AV → AW → Prop} (hn : hk 27 [y, .ptr b 0] w = none) (hs : l.length < 2 ^ 62) (I : Nat → AW → Prop) (h0 : I 0 w)
    (hrd : ∀ i w, I i w → Box w b [v] ∧ RsI w v l)
    (hstep : ∀ (i : Nat) (hi : i < l.length) w (Q : AW → Prop), I i w → (∀ w', I (i + 1) w' → Q w') → Cv Try.prog hk y [.int .i64 l[i]] w fun r w' => r = .bool true ∧ Q w')
    (hK : ∀ w', I l.length w' → K (.tup []) w') : Cl Try.prog hk 27 [y, .ptr b 0] w K := by
  apply in27 hn
  unfold F27
  obtain ⟨hb, hl⟩ := hrd 0 w h0
  refine onM_s (v := v) (by simp [hb.ld]) ⟨_, hl.len, ?_⟩
  refine loopP_ind (fun m lv w' => ∃ i : Nat, i ≤ l.length ∧ m = l.length - i ∧ lv = [.int .i64 i] ∧ I i w') ?_ ⟨0, Nat.zero_le _, rfl, rfl, h0⟩
  rintro m lv w' ⟨i, hi, rfl, rfl, hI⟩ R ih
  refine ⟨_, rfl, fun _ => ifT_d (fun h => ?_) fun h => ?_⟩
  · have h : i < l.length := by omega
    refine (hrd i w' hI).2.atN h fun b o hld => ⟨_, hld, ?_⟩
    have hc := hstep i h w' (fun w2 => R [.int .i64 (wi (i + 1))] w2) hI fun w2 h2 => ih (l.length - (i + 1)) (by omega) _ _ ⟨i + 1, h, rfl, by rw [wi_eq (by omega) (by omega)]; rfl, h2⟩
    have mono : ∀ {fv : AV} {xs : List AV} {w : AW} {K K' : AV → AW → Prop}, (∀ v w, K v w → K' v w) → Cv Try.prog hk fv xs w K → Cv Try.prog hk fv xs w K' := fun {fv xs w K K2} h hc => by
      cases fv <;> first | exact wpL_mono _ _ _ (valK_mono h) hc | exact hc
    exact mono (fun r w2 hr => ⟨true, hr.1, hr.2⟩) hc
  · have : i = l.length := by omega
    subst this
    exact hK w' hI

/-- What slices.AppendSeq has of a slice's items: a new slice of them. -/
theorem s28 {hk : Hook} {w : AW} {b : Nat} {v : AV} {l : List Int} {K : AV → AW → Prop} (hn : hk 28 [.nilslice, .func 27 [] [.ptr b 0]] w = none) (hn27 : ∀ a w, hk 27 a w = none) (hm : Mem w) (hb : Box w b [v]) (hl : RsI w v l) (hs : l.length < 2 ^ 40)
    (hK : ∀ v' w', Fr w.size w w' → Acc w.size w' 1 v' (l.map (AV.int .i64)) → K v' w') : Cl Try.prog hk 28 [.nilslice, .func 27 [] [.ptr b 0]] w K := by
  have hbl := hb.lt hm
  have hwpos : 0 < w.size := by omega
  refine wpL_in (t := .call _ _ _) ?_
  show wCall Try.prog _ hk 28 _ w _
  unfold wCall
  rw [hn]
  refine ⟨Try.f28, Try.func28, ?_⟩
  unfold wEnter
  rw [body28]
  show wpL Try.prog hk (.code none _ ⟨[.nilslice, .func 27 [] [.ptr b 0], u, u, u, u, u, u, u, u, u, u, u], [], w⟩) _
  refine lf_step (n := 13) (Kn := fun t' w' => t' = [.nilslice, .func 27 [] [.ptr b 0], .ptr w.size 0, u, .nilslice, u, u, u, u, u, u, u, u] ∧ w' = newCells w [.nilslice]) (by rw [r0_28]; exact ⟨rfl, rfl, rfl⟩) fun t' w' h => ?_
  obtain ⟨rfl, rfl⟩ := h
  have hm1 : Mem (newCells w [.nilslice]) := (Fr.push hm fun cs' f own d e => by cases e; exact Nat.le_refl _).mem
  have hsz1 : (newCells w [AV.nilslice]).size = w.size + 1 := rfl
  have hf1 : Fr w.size w (newCells w [.nilslice]) := Fr.push hm fun cs' f own d e => by cases e; exact Nat.le_refl _
  have hbx1 : Box (newCells w [.nilslice]) w.size [.nilslice] := by simp [Box, newCells, cellsAO]
  generalize newCells w [.nilslice] = w1 at *
  -- the range, and what is behind it
  refine wpL_in (t := .code none _ _) (show wpL Try.prog hk (.code none _ _) _ from ?_)
  refine lf_step (n := 13) (Kn := fun t' w' => t' = [.nilslice, .func 27 [] [.ptr b 0], .ptr w.size 0, u, .nilslice, u, .func 27 [] [.ptr b 0], u, u, u, u, u, u] ∧ w' = w1) (by rw [r1_28]; exact ⟨rfl, rfl, rfl⟩) fun t' w' h => ?_
  obtain ⟨rfl, rfl⟩ := h
  refine wpL_in (t := .code none (.block 0 _) _) (show wpL Try.prog hk (.code none _ _) _ from ?_)
  refine wpL_in (t := .code none (.rangeFunc _ _ _ _) _) ?_
  let T : Tm := [.nilslice, .func 27 [] [.ptr b 0], .ptr w.size 0, u, .nilslice, u, .func 27 [] [.ptr b 0], u, u, u, u, u, u]
  let R0 : LoopA := ⟨.ready, none, 0, T, [7], cA rf28, .block 1 (cB (cY rf28)), w'.size⟩
  refine ⟨w'.size, [w'.size], w'.push .deferred, .func 27 [] [.ptr b 0], rfl, rfl, ?_⟩
  show wpL Try.prog hk (.call 27 ([] ++ ([.yield (w'.push .deferred).size] ++ [.ptr b 0])) ((w'.push .deferred).push R0.ob)) (valK _)
  have hm2 : Mem (w'.push .deferred) := hm1.push fun cs f own d e => by cases e
  have hm3 : Mem ((w'.push .deferred).push R0.ob) := hm2.push fun cs f own d e => by cases e
  have hf3 : Fr w'.size w' ((w'.push .deferred).push R0.ob) := (Fr.push hm1 fun cs f own d e => by cases e).trans (Fr.push hm2 fun cs f own d e => by cases e) (by simp)
  have hl3 : ((w'.push .deferred).push R0.ob).get (w'.size + 1) = some R0.ob := by simp
  have hd3 : ((w'.push .deferred).push R0.ob).get w'.size = some .deferred := by simp
  have hz : (w'.push .deferred).size = w'.size + 1 := by simp
  rw [hz]
  -- what holds when i items have come
  refine s27 (hn27 _ _) (by omega) (fun i x => Mem x ∧ Fr w.size w x ∧ w'.size ≤ x.size ∧ x.get (w'.size + 1) = some R0.ob ∧ x.get w'.size = some .deferred ∧ ∃ a, Box x w.size [a] ∧ Acc w.size x 1 a ((l.take i).map (AV.int .i64)) ∧ blk a ≠ some w.size)
    ⟨hm3, (hf1.trans hf3 (by omega)), by simp; omega, hl3, hd3, .nilslice, hbx1.fr hf3 (by omega), Acc.nil, by simp [blk]⟩ (fun i x hI => ⟨hb.fr hI.2.1 hbl, hl.fr hm hI.2.1 (Nat.le_refl _)⟩) ?_ ?_
  · rintro i hi x Q ⟨i1, i2, i3, i4, i5, a, i6, i7, i8⟩ hQ
    show wpL Try.prog hk (.yield (w'.size + 1) _ x) (valK _)
    refine yield_of (n := 13) (r := R0) (t2 := [.nilslice, .func 27 [] [.ptr b 0], .ptr w.size 0, u, .nilslice, .int .i64 l[i], .func 27 [] [.ptr b 0], .int .i64 l[i], u, u, u, u, u]) (by unfold loopAt; rw [i4]; rfl) rfl rfl (fun Kn hKn => by
      show codeS Try.prog hk 13 .lf (cA rf28) (setParams (#[7].toList.zip [.int .i64 l[i]]) [.nilslice, .func 27 [] [.ptr b 0], .ptr w.size 0, u, .nilslice, u, .func 27 [] [.ptr b 0], u, u, u, u, u, u]) x _
      rw [r2_28]; exact ⟨rfl, hKn⟩) ?_
    -- the body
    let R1 : LoopA := { R0 with st := .busy }
    have hxl : w'.size + 1 < x.size := i1.lt _ _ i4
    have hm4 : Mem (x.set (w'.size + 1) R1.ob) := i1.set hxl fun cs f own d e => by cases e
    have hg4 : ∀ c, c ≠ w'.size + 1 → (x.set (w'.size + 1) R1.ob).get c = x.get c := fun c hc => by simp [hc]
    have hl4 : (x.set (w'.size + 1) R1.ob).get (w'.size + 1) = some R1.ob := by simp
    have hf4 : Fr w.size x (x.set (w'.size + 1) R1.ob) := ⟨Nat.le_refl _, fun c hc => hg4 c (by omega), hm4⟩
    have hbx4 : Box (x.set (w'.size + 1) R1.ob) w.size [a] := by unfold Box; rw [hg4 _ (by omega)]; exact i6
    have hd4 : (x.set (w'.size + 1) R1.ob).get w'.size = some .deferred := by rw [hg4 _ (by omega)]; exact i5
    have hacc4 : Acc w.size (x.set (w'.size + 1) R1.ob) 1 a ((l.take i).map (AV.int .i64)) := by
      rcases i7 with h | ⟨c, f, n, o, d, h1, h2, h3, h4, h5, h6, h7⟩
      · exact .inl h
      · obtain ⟨c0, hc0, _⟩ := AW.root?_iff.1 h7
        have n1 : c ≠ w'.size + 1 := fun e => by rw [e, i4] at h6; cases h6
        have n2 : f ≠ w'.size + 1 := fun e => by rw [e, i4] at hc0; cases hc0
        exact .inr ⟨c, f, n, o, d, h1, h2, h3, h4, h5, by rw [hg4 _ n1]; exact h6, by rw [AW.root?_congr (hg4 _ n2)]; exact h7⟩
    have hsz4 : (x.set (w'.size + 1) R1.ob).size = x.size := rfl
    show codeL Try.prog hk (some (w'.size + 1)) (.block 1 (cB (cY rf28))) _ [] (x.set (w'.size + 1) R1.ob) _
    generalize x.set (w'.size + 1) R1.ob = y at *
    refine codeL_mono (fun e t w2 h => h.2) (codeS_ok (n := 13) (a := .bl .lf) (t := [.nilslice, .func 27 [] [.ptr b 0], .ptr w.size 0, u, .nilslice, .int .i64 l[i], .func 27 [] [.ptr b 0], .int .i64 l[i], u, u, u, u, u]) ?_)
    rw [r3_28]
    refine onM_s (v := a) (by rw [hbx4.ld]; rfl) (new_of hm4 fun y1 f1 b1 z1 => ?_)
    have hrs : Rs y1 1 1 (.slice y.size 0 1 1 none) [.int .i64 l[i]] := .inr ⟨y.size, 0, 1, none, _, rfl, b1.cells, by simp, rfl⟩
    have hlen : ((l.take i).map (AV.int .i64)).length / 1 = i := by simp; omega
    refine Acc.app (hacc4.fr hm4 f1 (Nat.le_refl _)) f1.mem (by omega) (by omega) (by omega) hrs (by rw [hlen]; omega) (by rw [hlen]; omega) fun a' y2 hacc hgrow => gd_t ?_ ?_
    · rcases hacc with ⟨rfl, _⟩ | ⟨c, f, n, o, d, rfl, _⟩ <;> rfl
    have hbx5 : Box y2 w.size [a] := hgrow.box _ _ (hbx4.fr f1 (by omega)) i8
    have hne : blk a' ≠ some w.size := by
      intro e
      have := hgrow.blk _ e (by omega)
      rw [this] at e
      exact i8 e
    have hput := hbx5.put (o := 0) (vs := [a']) (by omega) (by simp)
    refine onM_s hput ?_
    have hl5 : y2.get (w'.size + 1) = some R1.ob := hgrow.obj _ _ ((f1.old _ (by omega)).trans hl4) fun cs f own d e => by cases e
    have hd5 : y2.get w'.size = some .deferred := hgrow.obj _ _ ((f1.old _ (by omega)).trans hd4) fun cs f own d e => by cases e
    have hm5 := hgrow.fr.mem
    have hw5 : w.size < y2.size := hbx5.lt hm5
    refine ⟨rfl, R1, by unfold loopAt; simp only [AW.set_get]; rw [if_neg (by omega), hl5]; rfl, rfl, hQ _ ?_⟩
    -- the memory behind
    have hlp : listPut [a] 0 [a'] = [a'] := rfl
    rw [hlp]
    have hg6 : ∀ c, c ≠ w.size → c ≠ w'.size + 1 → ((y2.set w.size (.cells [a'] w.size w.size false)).set (w'.size + 1) R0.ob).get c = y2.get c := fun c h1 h2 => by simp [h1, h2]
    have hxl2 : w'.size + 1 < y2.size := hm5.lt _ _ hl5
    have hm6 : Mem ((y2.set w.size (.cells [a'] w.size w.size false)).set (w'.size + 1) R0.ob) := (hm5.set hw5 fun cs f own d e => by cases e; exact Nat.le_refl _).set hxl2 fun cs f own d e => by cases e
    refine ⟨hm6, ⟨?_, fun c hc => ?_, hm6⟩, ?_, by simp; rfl, ?_, a', ?_, ?_, hne⟩
    · have h1 := i2.size
      have h2 := hgrow.fr.size
      simp only [AW.set_size]; omega
    · rw [hg6 c (by omega) (by omega), hgrow.fr.old c hc, f1.old c (by omega), hf4.old c hc, i2.old c hc]
    · have h2 := hgrow.fr.size
      simp only [AW.set_size]; omega
    · rw [hg6 _ (by omega) (by omega)]; exact hd5
    · unfold Box; simp only [AW.set_get]; rw [if_neg (by omega)]; simp
    · have : (l.take (i + 1)).map (AV.int .i64) = (l.take i).map (AV.int .i64) ++ [.int .i64 l[i]] := by rw [← List.take_append_getElem hi, List.map_append]; rfl
      rw [this]
      rcases hacc with h | ⟨c, f, n, o, d, h1, h2, h3, h4, h5, h6, h7⟩
      · exact .inl h
      · obtain ⟨c0, hc0, _⟩ := AW.root?_iff.1 h7
        have n1 : c ≠ w'.size + 1 := fun e => by rw [e, hl5] at h6; cases h6
        have n2 : f ≠ w'.size + 1 := fun e => by rw [e, hl5] at hc0; cases hc0
        have n3 : c ≠ w.size := fun e => hne (by rw [h1, e]; rfl)
        have n4 : f ≠ w.size := fun e => by
          rw [e] at hc0
          have := hbx5
          unfold Box at this
          rw [hc0] at this
          cases this
          exact n3 rfl
        exact .inr ⟨c, f, n, o, d, h1, h2, h3, h4, h5, by rw [hg6 _ n3 n1]; exact h6, by rw [AW.root?_congr (hg6 _ n4 n2)]; exact h7⟩
  · rintro x ⟨i1, i2, i3, i4, i5, a, i6, i7, i8⟩
    rw [List.take_length] at i7
    refine ⟨R0, by unfold loopAt; rw [i4]; rfl, by simp [R0], ?_⟩
    have hxl : w'.size + 1 < x.size := i1.lt _ _ i4
    have hg4 : ∀ c o, c ≠ w'.size + 1 → (x.set (w'.size + 1) o).get c = x.get c := fun c o hc => by simp [hc]
    show wpL Try.prog hk (.code none (.seq (cL (cR (cR b28))) .ret) ⟨_, [w'.size], x.set (w'.size + 1) _⟩) _
    refine lf_step (n := 13) (Kn := fun t' w2 => t' = [.nilslice, .func 27 [] [.ptr b 0], .ptr w.size 0, u, a, u, .func 27 [] [.ptr b 0], u, u, u, u, u, a] ∧ w2 = x.set (w'.size + 1) (LoopA.ob { R0 with st := .exhausted })) (by
      have hbx : Box (x.set (w'.size + 1) (LoopA.ob { R0 with st := .exhausted })) w.size [a] := by unfold Box; rw [hg4 _ _ (by omega)]; exact i6
      rw [r4_28]; exact onM_s (v := a) (by rw [hbx.ld]; rfl) ⟨rfl, rfl, rfl⟩) fun t' w2 h => ?_
    obtain ⟨rfl, rfl⟩ := h
    refine wpL_in (t := .code none .ret _) ?_
    let x1 := x.set (w'.size + 1) (LoopA.ob { R0 with st := .exhausted })
    have hd : x1.get w'.size = some .deferred := by rw [hg4 _ _ (by omega)]; exact i5
    refine ⟨.inr rfl, x1.set w'.size .gone, [a], by simp only [takeAll]; rw [hd], rfl, ?_⟩
    have hg7 : ∀ c, c ≠ w'.size + 1 → c ≠ w'.size → (x1.set w'.size .gone).get c = x.get c := fun c h1 h2 => by simp [x1, h1, h2]
    have hm7 : Mem (x1.set w'.size .gone) := (i1.set hxl fun cs f own d e => by cases e).set (by show w'.size < x.size; omega) fun cs f own d e => by cases e
    refine hK _ _ ⟨by simp only [x1, AW.set_size]; exact i2.size, fun c hc => by rw [hg7 c (by omega) (by omega)]; exact i2.old c hc, hm7⟩ ?_
    rcases i7 with h | ⟨c, f, n, o, d, h1, h2, h3, h4, h5, h6, h7⟩
    · exact .inl h
    · obtain ⟨c0, hc0, _⟩ := AW.root?_iff.1 h7
      have n1 : c ≠ w'.size + 1 := fun e => by rw [e, i4] at h6; cases h6
      have n2 : f ≠ w'.size + 1 := fun e => by rw [e, i4] at hc0; cases hc0
      have n3 : c ≠ w'.size := fun e => by rw [e, i5] at h6; cases h6
      have n4 : f ≠ w'.size := fun e => by rw [e, i5] at hc0; cases hc0
      exact .inr ⟨c, f, n, o, d, h1, h2, h3, h4, h5, by rw [hg7 _ n1 n3]; exact h6, by rw [AW.root?_congr (hg7 _ n2 n4)]; exact h7⟩
end Go.Proofs.Ytcmkgjaclhpafaa
