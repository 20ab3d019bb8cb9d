/-
  Open of a file that is not there.
  No condition beyond those that each theorem names.
-/
import Derived.Test.YtdlogcincelccaaH08
set_option linter.unusedSimpArgs false
open Go.Sx
set_option linter.unusedVariables false
set_option linter.unusedSimpArgs false
namespace Go.Proofs.Ytdlogcincelccaa
section
variable {hk : Hook} {A B : Nat → Prop} {I : List Nat} {w0 w w' : AW} {D S : Nat} {i i' : DI} {d d' : Dsk} {k k' : Nat} {L L' : Obs} {K : AV → AW → Prop} {nm bs : Byts} {es : List Int} {bv ev : AV} {br : Bool} {ef : Nat} {eo : Ob}
theorem s42o {v : AV} {fr : Int} (hh : HK hk) (st : Ow A I w0 w L) (hv : okCell v = true) (hK : ∀ c1 c2 w', Ow A I w0 w' ((c1, .row [.int .i64 fr]) :: (c2, .row [v]) :: L) → Xt (ids L) w (c1 :: c2 :: ids L) w' → K (.func 59 [] [.ptr c1 0, .ptr c2 0]) w') : Cl Try.prog hk 42 [v, .int .i64 fr] w K := by
  apply in42 (hh.no _ _ _ (by decide) (by decide))
  unfold F42
  exact gd_t hv (st.new' fun c2 w3 st3 x3 => st3.new' fun c1 w5 st5 x5 => hK c1 c2 w5 st5 (x3.trans x5))
set_option maxRecDepth 20000 in
theorem s37n (hh : HK hk) (pv : Pv A w) (hK : ∀ w', Fr w.size w w' → K .nilslice w') : Cl Try.prog hk 37 [.nilslice] w K := by
  apply in37 (hh.no _ _ _ (by decide) (by decide))
  unfold F37
  refine pv.st.new' fun b1 w2 st2 x2 => ?_
  refine s42o (fr := 0) hh st2 rfl fun c1 c2 w4 st4 x4 => ?_
  intro R0 hst hpend hY
  obtain ⟨st5, x5⟩ := st4.pushObj (o := .deferred) (fun _ _ _ _ h => by cases h)
  obtain ⟨st6, x6⟩ := st5.pushObj (o := LoopA.ob R0) ob_no
  rw [show (w4.push .deferred).size = w4.size + 1 from rfl] at st6 x6
  show Cl Try.prog hk 59 [.yield (w4.size + 1), .ptr c1 0, .ptr c2 0] _ _
  have hc1 : Box ((w4.push .deferred).push (LoopA.ob R0)) c1 [.int .i64 ((0 : Nat) : Int)] := (st6.box (c1, _) (nth_mem (i := 2) rfl) rfl).1
  generalize (w4.push .deferred).push (LoopA.ob R0) = w6 at *
  refine s59 (fr := 0) (b := []) (bv := .nilslice) hh (fun j wx => j = 0 ∧ wx = w6) (fun j wx ⟨_, e⟩ => by rw [e]; exact ⟨st6.mem, st6.P0.pos, (st6.box (c2, _) (nth_mem (i := 3) rfl) rfl).1, Rp.rd.nil⟩) hc1 ⟨rfl, rfl⟩ (by simp) (by decide) (fun j wj wj' xv _ hlt => absurd hlt (by simp)) ?_
  rintro j wx ⟨rfl, rfl⟩ _ _
  refine ⟨R0, loop_of (st6.box (w4.size + 1, .obj (LoopA.ob R0)) (nth_mem (i := 0) rfl) rfl).1.1, by rw [hst]; simp, ?_⟩
  rw [hpend]
  obtain ⟨st7, x7⟩ := st6.setObj 0 (o2 := LoopA.ob { R0 with st := .exhausted, pending := none }) rfl ob_no
  refine onM_s (v := .nilslice) (st7.ld 4 rfl rfl) ?_
  have hdd := (st7.box (w4.size, .obj .deferred) (nth_mem (i := 1) rfl) rfl).1.1
  obtain ⟨st8, x8⟩ := st7.setObj 1 (o2 := .gone) rfl (fun _ _ _ _ h => by cases h)
  exact onM_s (take_one hdd) (hK _ st8.fr)
theorem s13n (hh : HK hk) (h3 : ld w S 3 = some .nilslice) (hK : K (.int .i64 0) w) : Cl Try.prog hk 13 [.ptr S 0] w K := by
  apply in13 (hh.no _ _ _ (by decide) (by decide))
  unfold F13
  refine ⟨false, by kernel_rfl, ifT_f ?_⟩
  simp only [onP]
  exact onM_s h3 ⟨0, rfl, ifT_t hK⟩
theorem s36n {v : AV} (hh : HK hk) (h : lenS v = some (.int .i64 0)) (hK : K (.bool true) w) : Cl Try.prog hk 36 [.nilslice, v] w K := by
  apply in36 (hh.no _ _ _ (by decide) (by decide))
  unfold F36
  refine ⟨0, rfl, 0, h, ifT_f ⟨0, rfl, ?_⟩⟩
  intro R hR
  exact hR _ _ ⟨0, rfl, fun _ => ifT_f hK⟩
theorem s35n {v : AV} (hh : HK hk) (h : lenS v = some (.int .i64 0)) (hK : K .nilslice w) : Cl Try.prog hk 35 [v] w K := by
  apply in35 (hh.no _ _ _ (by decide) (by decide))
  unfold F35
  intro R hR
  exact hR _ _ ⟨_, _, rfl, fun _ => ⟨0, h, ifT_d (fun hc => absurd hc (by decide)) fun _ => hK⟩⟩
set_option maxRecDepth 20000 in
theorem s11n (hh : HK hk) (h : Dk A [] w0 w D i d k L) (hg : nget d.now.names nm = none)
    (hK : ∀ S w', Dk A [] w0 w' D i d k ((S, .row (segC D nm .nilslice .nilslice false)) :: L) → Xt (dkU D i L) w (dkU D i ((S, .row (segC D nm .nilslice .nilslice false)) :: L)) w' → K (.tup [.ptr S 0, .int .i64 0]) w') : Cl Try.prog hk 11 [.ptr D 0, .str nm] w K := by
  apply in11 (hh.no _ _ _ (by decide) (by decide))
  unfold F11
  have hrd : d.read nm = ([], 70) := by unfold Dsk.read; rw [hg]
  refine s26 hh h fun v3 w3 f3 hg3 => ⟨_, _, rfl, ?_⟩
  rw [hrd] at hg3 ⊢
  obtain ⟨h3, x3⟩ := h.fr f3
  have hv3 : lenS v3 = some (.int .i64 0) := (hg3.rd (by decide)).len'
  refine join_of (fun lv w7 => lv = [] ∧ w7 = w3) ?_ ?_
  · rintro lv w7 ⟨rfl, rfl⟩
    refine ⟨rfl, fun _ => gd_t rfl (gd_t rfl (h3.new' fun b9 w10 h10 x10 => ?_))⟩
    refine s35n hh hv3 ?_
    refine join_of (fun lv w14 => lv = [] ∧ w14 = w10) ?_ ?_
    · rintro lv w14 ⟨rfl, rfl⟩
      refine ⟨rfl, fun _ => s13n hh (h10.ow.ld 6 rfl rfl) ⟨0, rfl, onM_s (v := .nilslice) rfl (gd_t rfl (h10.wr 0 rfl (by simp) fun w20 h20 x20 => ?_))⟩⟩
      have h20 : Dk A [] w0 w20 D i d k ((b9, .row (segC D nm .nilslice .nilslice false)) :: L) := h20
      have x20 : Xt (dkU D i ((b9, .row (segC D nm .nilslice .nilslice false)) :: L)) w14 (dkU D i ((b9, .row (segC D nm .nilslice .nilslice false)) :: L)) w20 := x20
      refine join_of (fun lv w22 => lv = [.int .i64 0] ∧ ∃ x : Xt (dkU D i L) w (dkU D i ((b9, .row (segC D nm .nilslice .nilslice false)) :: L)) w22, Dk A [] w0 w22 D i d k ((b9, .row (segC D nm .nilslice .nilslice false)) :: L)) ?_ ?_
      · rintro lv w22 ⟨rfl, x22, h22⟩
        exact ⟨0, rfl, fun _ => ifT_f (hK b9 w22 h22 x22)⟩
      · intro J hJ
        refine onM_s (v := .nilslice) (h20.ow.ld 6 rfl rfl) (s37n hh h20.ow.P fun w27 f27 => ?_)
        obtain ⟨h27, x27⟩ := h20.fr f27
        refine s36n hh hv3 ⟨true, rfl, ifT_f ?_⟩
        exact hJ _ _ ⟨rfl, ((x3.trans x10).trans x20).trans x27, h27⟩
    · intro J hJ
      intro R hR
      exact hR _ _ ⟨0, rfl, fun _ => ⟨0, rfl, ifT_d (fun hc => absurd hc (by decide)) fun _ => hJ _ _ ⟨rfl, rfl⟩⟩⟩
  · intro J hJ
    exact ifT_t (ifT_f (hJ _ _ ⟨rfl, rfl⟩))
end
end Go.Proofs.Ytdlogcincelccaa
