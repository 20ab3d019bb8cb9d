/-
  conduitlaw23.RaftRight: whatever the arguments are, the law answers true and the arguments read behind the call as before.
  No condition.
-/
import Derived.Test.YtghoifolghelnaaGreatRows
import Derived.Test.YtghoifolghelnaaGreatJfRaftRight
import Derived.Test.YtghoifolghelnaaGreatMf
import Derived.Test.YtghoifolghelnaaGreatSxq
import Derived.Test.YtghoifolghelnaaGreatSxt
import Derived.Test.YtghoifolghelnaaGreatSxm
import Derived.Test.YtghoifolghelnaaGreatSxo
import Derived.WalkKit
import Derived.SizedLaws
set_option linter.unusedSimpArgs false
set_option linter.unusedVariables false
namespace Go.Proofs.YtghoifolghelnaaGreat.raftRight
open Go.Sx

noncomputable def hooks : List HR := [⟨9, hookApart [] (.bool true)⟩, ⟨122, hookSort⟩]
theorem hooks_ok : ∀ h ∈ hooks, HRok Tryz.prog h := by
  intro h hh
  simp only [hooks, List.mem_cons, List.not_mem_nil, or_false] at hh
  rcases hh with rfl | rfl
  · exact hookApart_ok (fun _ _ => host_hooks hooks0_ok (by kernel_rfl) (by kernel_rfl) (by kernel_rfl)) rfl rfl (by kernel_rfl) apart9 Tryz.func9 rfl
  · exact hookSort_ok Tryz.sortPhk0 Tryz.func122 rfl
theorem host {W : World} {n : Nat} : Host Tryz.prog (hookOf hooks) W n := host_hooks hooks_ok (by kernel_rfl) (by kernel_rfl) (by kernel_rfl)
theorem hk_ok : HK (hookOf hooks) := by
  refine ⟨fun f a w h1 h2 => ?_, fun a w x h => ?_, fun w => rfl⟩
  · show Bool.rec (motive := fun _ => Option (Option (AV × AW))) (Bool.rec (motive := fun _ => Option (Option (AV × AW))) none _ (Nat.beq f 122)) _ (Nat.beq f 9) = none
    rw [beq_ff h1, beq_ff h2]
  · show (match hookSort w a with | some x => some (some x) | none => none) = some (some x)
    rw [h]
theorem ent_of {css : List (List AV)} {cs : List AV} (h : Dt Tryz.prog css 110 cs) : ∃ x : Ent, rE.rd (fun _ => True) (argL css) cs x ∧ x.2.length ≤ 140737488351232 := by
  have q := Dt.ones Tryz.underlying110 h (by kernel_rfl) (by kernel_rfl)
  obtain ⟨c0, _, rfl, g0, c1, _, rfl, g1, rfl⟩ := q
  obtain ⟨y0, e, _⟩ := g0.i64 Tryz.underlying3; cases e
  obtain ⟨s, hs, hl⟩ := Dt.rdB Tryz.underlying23 Tryz.underlying5 (by kernel_rfl) (by kernel_rfl) g1
  exact ⟨(y0, s), ⟨c1, rfl, hs⟩, hl⟩
theorem rdg_of {css : List (List AV)} {cs : List AV} (h : Dt Tryz.prog css 74 cs) : ∃ x : Rdg, rG.rd (fun _ => True) (argL css) cs x ∧ True := by
  have q := Dt.ones Tryz.underlying74 h (by kernel_rfl) (by kernel_rfl)
  obtain ⟨c0, _, rfl, g0, c1, _, rfl, g1, c2, _, rfl, g2, rfl⟩ := q
  obtain ⟨y0, e, _⟩ := g0.i64 Tryz.underlying3; cases e
  obtain ⟨y1, e, _⟩ := g1.i64 Tryz.underlying3; cases e
  obtain ⟨y2, e, _⟩ := g2.i64 Tryz.underlying3; cases e
  exact ⟨(y0, y1, y2), rfl, trivial⟩
theorem bool_of {css : List (List AV)} {cs : List AV} (h : Dt Tryz.prog css 4 cs) : ∃ x : Bool, rT.rd (fun _ => True) (argL css) cs x ∧ True := by
  obtain ⟨b, e⟩ := Dt.bool1 Tryz.underlying4 h
  exact ⟨b, e, trivial⟩
set_option maxRecDepth 100000 in
theorem law (css : List (List AV)) (avs : List AV) (h : DtAllS Tryz.prog css [29, 32, 3, 23, 3] avs) : hookOf hooks 3 avs (argL css) = none ∧ Cl Tryz.prog (hookOf hooks) 3 avs (argL css) fun v _ => v = .bool true := by
  obtain ⟨a, _, rfl, h1, b, _, rfl, h2, c, _, rfl, h3, d, _, rfl, h4, f, _, rfl, h5, rfl⟩ := h
  obtain ⟨cs, rfl, hag⟩ := DtA.agg Tryz.underlying29 h1
  have q := Dt.ones Tryz.underlying29 hag (by kernel_rfl) (by kernel_rfl)
  obtain ⟨c0, _, rfl, g0, c1, _, rfl, g1, c2, _, rfl, g2, c3, _, rfl, g3, c4, _, rfl, g4, c5, _, rfl, g5, c6, _, rfl, g6, c7, _, rfl, g7, c8, _, rfl, g8, c9, _, rfl, g9, c10, _, rfl, g10, c11, _, rfl, g11, c12, _, rfl, g12, c13, _, rfl, g13, c14, _, rfl, g14, c15, _, rfl, g15, c16, _, rfl, g16, c17, _, rfl, g17, c18, _, rfl, g18, rfl⟩ := q
  obtain ⟨cs2, rfl, hag2⟩ := DtA.agg Tryz.underlying32 h2
  have q2 := Dt.ones Tryz.underlying32 hag2 (by kernel_rfl) (by kernel_rfl)
  obtain ⟨m0, _, rfl, k0, m1, _, rfl, k1, m2, _, rfl, k2, m3, _, rfl, k3, m4, _, rfl, k4, m5, _, rfl, k5, m6, _, rfl, k6, m7, _, rfl, k7, m8, _, rfl, k8, m9, _, rfl, k9, m10, _, rfl, k10, m11, _, rfl, k11, rfl⟩ := q2
  obtain ⟨i3, e, _⟩ := (h3.one (by rw [Tryz.underlying3])).i64 Tryz.underlying3; cases e
  obtain ⟨i5, e, _⟩ := (h5.one (by rw [Tryz.underlying3])).i64 Tryz.underlying3; cases e
  obtain ⟨d1, rd1, _⟩ := Dt.rdB Tryz.underlying23 Tryz.underlying5 (by kernel_rfl) (by kernel_rfl) (h4.one (by rw [Tryz.underlying23]))
  obtain ⟨y0, e, _⟩ := g0.i64 Tryz.underlying3; cases e
  obtain ⟨y1, e, _⟩ := g1.i64 Tryz.underlying3; cases e
  obtain ⟨y2, e⟩ := g2.u8 Tryz.underlying22; cases e
  obtain ⟨y3, e, _⟩ := g3.i64 Tryz.underlying3; cases e
  obtain ⟨y4, e, _⟩ := g4.i64 Tryz.underlying3; cases e
  obtain ⟨y5, e, _⟩ := g5.i64 Tryz.underlying3; cases e
  obtain ⟨y6, e, _⟩ := g6.i64 Tryz.underlying3; cases e
  obtain ⟨y7, e, _⟩ := g7.i64 Tryz.underlying3; cases e
  obtain ⟨y10, e, _⟩ := g10.i64 Tryz.underlying3; cases e
  obtain ⟨y15, e, _⟩ := g15.i64 Tryz.underlying3; cases e
  obtain ⟨y16, e, _⟩ := g16.i64 Tryz.underlying3; cases e
  obtain ⟨y17, e, _⟩ := g17.i64 Tryz.underlying3; cases e
  obtain ⟨z0, e, _⟩ := k0.rdS Tryz.underlying9; cases e
  obtain ⟨z1, e⟩ := k1.u8 Tryz.underlying30; cases e
  obtain ⟨z2, e, _⟩ := k2.i64 Tryz.underlying3; cases e
  obtain ⟨z3, e, _⟩ := k3.i64 Tryz.underlying3; cases e
  obtain ⟨z4, e, _⟩ := k4.i64 Tryz.underlying3; cases e
  obtain ⟨z5, e, _⟩ := k5.i64 Tryz.underlying3; cases e
  obtain ⟨z6, e, _⟩ := k6.i64 Tryz.underlying3; cases e
  obtain ⟨z7, e, _⟩ := k7.i64 Tryz.underlying3; cases e
  obtain ⟨z8, e, _⟩ := k8.i64 Tryz.underlying3; cases e
  obtain ⟨z9, e⟩ := Dt.bool1 Tryz.underlying4 k9; cases e
  obtain ⟨z10, rz10, _⟩ := Dt.rdL (r := rE) Tryz.underlying24 (by kernel_rfl) (fun _ h => ent_of h) k10
  obtain ⟨z11, rz11, _⟩ := Dt.rdB Tryz.underlying23 Tryz.underlying5 (by kernel_rfl) (by kernel_rfl) k11
  obtain ⟨l8, r8, b8⟩ := Dt.rdB Tryz.underlying23 Tryz.underlying5 (by kernel_rfl) (by kernel_rfl) g8
  obtain ⟨l9, r9, b9, q9⟩ := Dt.rdL (r := rE) Tryz.underlying24 (by kernel_rfl) (fun _ h => ent_of h) g9
  obtain ⟨l11, r11, b11, _⟩ := Dt.rdL (r := rT) Tryz.underlying25 (by kernel_rfl) (fun _ h => bool_of h) g11
  obtain ⟨l12, r12, b12, _⟩ := Dt.rdI Tryz.underlying26 Tryz.underlying3 (by kernel_rfl) (by kernel_rfl) g12
  obtain ⟨l13, r13, b13, _⟩ := Dt.rdI Tryz.underlying26 Tryz.underlying3 (by kernel_rfl) (by kernel_rfl) g13
  obtain ⟨l14, r14, b14, _⟩ := Dt.rdI Tryz.underlying26 Tryz.underlying3 (by kernel_rfl) (by kernel_rfl) g14
  obtain ⟨l18, r18, b18, _⟩ := Dt.rdL (r := rG) Tryz.underlying27 (by kernel_rfl) (fun _ h => rdg_of h) g18
  rw [show Tryz.prog.bytesOf 4 = 1 from by kernel_rfl, show reachBytes = 140737488351232 from rfl] at b11
  rw [show Tryz.prog.bytesOf 74 = 24 from by kernel_rfl, show reachBytes = 140737488351232 from rfl] at b18
  exact ⟨hk_ok.no _ _ _ (by decide) (by decide), s3 (n := ⟨y0, y1, y2.toNat, y3, y4, y5, y6, y7, l8, l9, y10, l11, l12, l13, l14, y15, y16, y17, l18⟩) (s0 := ⟨c8, c9, c11, c12, c13, c14, c18⟩) (m := ⟨z0, z1.toNat, z2, z3, z4, z5, z6, z7, z8, z9, z10, z11⟩) hk_ok Pv.arg ⟨r8, r9, r11, r12, r13, r14, r18⟩
    (fun lg => ⟨⟨b8, by show l9.length < _; have : l9.length ≤ 300 := lg; omega, by show l11.length ≤ _; omega, b12, b13, b14, b18⟩, q9⟩) rz10 rz11 rd1 ⟨by show (0 : Int) ≤ (z1.toNat : Int); omega, by show (z1.toNat : Int) < 256; have := z1.toNat_lt; omega⟩⟩
end Go.Proofs.YtghoifolghelnaaGreat.raftRight

namespace Go.Proofs.YtghoifolghelnaaGreat.raftRight
open Go.ChangeShapes Go.WideShapes Go.ChangeAt Go.RowKit Go.Sx
theorem own : ownKnob Tryz.prog.godebug = none := by kernel_rfl

set_option maxRecDepth 100000 in
theorem lifted (os : Os) (started : os.Started) (H : Type) (enc : TypeId × Value → H) :
    ReturnsInHanded {} Tryz.checked os 3 .any (Rows.raftRightSpec.pre6 enc Tryz.prog Tryz.f3 Rows.raftRightRow.domain false) (Rows.raftRightSpec.post enc Tryz.prog Tryz.f3 false true false false) := by
  refine returnsInHanded_of_change_sized (C := Tryz.checked) own started (by kernel_rfl) Tryz.func3
    (ChangeSpec.witness6 (enc := enc) (C := Tryz.checked) false ⟨#[], #[.agg #[.int .i64 0, .int .i64 0, .int .u8 0, .int .i64 0, .int .i64 0, .int .i64 0, .int .i64 0, .int .i64 0, .slice none 0 0, .slice none 0 0, .int .i64 0, .slice none 0 0, .slice none 0 0, .slice none 0 0, .slice none 0 0, .int .i64 0, .int .i64 0, .int .i64 0, .slice none 0 0], .agg #[.string ⟨#[]⟩, .int .u8 0, .int .i64 0, .int .i64 0, .int .i64 0, .int .i64 0, .int .i64 0, .int .i64 0, .int .i64 0, .bool false, .slice none 0 0, .slice none 0 0], .int .i64 0, .slice none 0 0, .int .i64 0], []⟩ 8 (by kernel_rfl) (by kernel_rfl) (by kernel_rfl) (by kernel_rfl)) ?_
  intro W base args ds gs before hval0 hW hcnd hsz0 _
  have hval : ∀ (j : Nat) t v, Tryz.f3.params[j]? = some t → args[j]? = some v → Value.okWide Tryz.prog W .any base t v := hval0
  have hW' := hW
  obtain ⟨p, q, hA0, hV, rfl, hfz, hnd⟩ := hW
  have hA : DataW.TrodAll enc Tryz.prog W 0 (fun _ => true) true Tryz.f3.params.toList args.toList ds p := hA0
  obtain ⟨rfl, rfl⟩ := trodVars_none hV
  rw [show Rows.raftRightSpec.plain.varTypes Tryz.checked.prog = [] from by kernel_rfl, List.append_nil, List.append_nil] at hsz0
  have hsz : (DataW.weightsEach Tryz.prog Tryz.f3.params.toList ds).all (· ≤ reachBytes) = true := hsz0
  rw [Tryz.params3] at hA hval hsz
  have walk : Calls Tryz.prog 3 args W fun e W' => e = .returned (.bool true) ∧ ∃ w' m', Rel W W.heap.size m' w' W' :=
    walkS (dd := 8) (ts := [29, 32, 3, 23, 3]) host Tryz.func3 rfl (fun t ht => List.all_eq_true.1 (show ([29, 32, 3, 23, 3] : List TypeId).all (flatD Tryz.prog 8) = true from by kernel_rfl) t ht) law
      (fun j t v h1 h2 => hval j t v (by rw [← Array.getElem?_toList]; exact h1) (by rw [← Array.getElem?_toList]; exact h2)) hA hsz
  refine walk.mono fun e W' ⟨he, w', m', hrel⟩ => ?_
  subst he
  have hlen : ds.length = 5 := trodAll_len hA
  have hfn : ∃ d0 d1 d2 d3 d4, ds = [d0, d1, d2, d3, d4] := by
    match ds, hlen with
    | [d0, d1, d2, d3, d4], _ => exact ⟨d0, d1, d2, d3, d4, rfl⟩
  obtain ⟨d0, d1, d2, d3, d4, rfl⟩ := hfn
  exact ⟨_, rfl, post_law (tb := 4) 6 (fun t ht => List.all_eq_true.1 (show (Tryz.f3.params.toList).all (plainT Tryz.prog 6) = true from by kernel_rfl) t ht) rfl rfl Tryz.underlying4 rfl rfl hW' (hrel.kept _) hrel.old.2 hrel.frozen (ok_one (by kernel_rfl) rfl (okWide_bool_mk Tryz.underlying4 _))⟩

theorem over : Rows.raftRightRow.holds Tryz.pinned (OpenSpec.ofChange Rows.raftRightSpec) :=
  OpenClaim.holds_of_wide 3 Tryz.f3 rfl rfl rfl rfl rfl rfl rfl ⟨rfl, rfl, rfl, rfl, rfl⟩ rfl rfl rfl rfl rfl (by kernel_rfl) Tryz.func3 facts
    (of_decide_eq_true (by kernel_rfl)) (by unfold Func.isWrapper; first | (rw [if_pos (by decide +kernel)]; kernel_rfl) | (rw [if_neg (by decide +kernel)]; exact ⟨rfl, rfl⟩))
    (fun os started H enc _ => lifted os started H enc)

theorem proved : Rows.RaftRightSaid :=
  over
#print axioms proved
end Go.Proofs.YtghoifolghelnaaGreat.raftRight
