/-
 Exact files of a segment, purely; the document's sectors, over memory.
 No condition beyond those that each theorem names.
-/
import Derived.Test.YtdlogcincelccaaMc
set_option linter.unusedSimpArgs false
open Go.Sx
set_option linter.unusedVariables false
set_option linter.unusedSimpArgs false
namespace Go.Proofs.Ytdlogcincelccaa
section
variable {d : Dsk} {nm b : Byts} {f : Int} {ss : List Byts}
theorem fl_put_eq (h : Fl d nm f ss) (hn : named nm = true) {j : Nat} {data : Byts} (hl : data.length = 64) (hj : j ≤ ss.length) (hj2 : j < 4096) :
  d.put nm j data = ({ d with steps := d.steps ++ [⟨1, f, (j : Int), data, [], []⟩], now := d.now.does ⟨1, f, (j : Int), data, [], []⟩ }, 0) := by
 unfold Dsk.put
 simp only [h.get, hn, hl, Option.getD_some, h.file]
 rw [if_neg (by simp; omega), if_neg (by simp; omega), qu_more h.qt]
 rfl
theorem crash_one (hn : named nm = true) (h : Fl d nm f ss) (hst : d.steps = []) (hl : ss.length = 1) : ∃ d', puts nm b 2 0 d = (d', 0) ∧ Fl (d'.crash [true]) nm f [sector b 0] ∧ (d'.crash [true]).steps = [] := by
 obtain ⟨d1, h1, h2⟩ := h.put hn (data := sector b 0) (sector_length b 0) (j := 0) (by omega) (by decide)
 have e1 := fl_put_eq h hn (j := 0) (data := sector b 0) (sector_length b 0) (by omega) (by decide)
 have hl1 : (putS ss 0 (sector b 0)).length = 1 := by
  have := (putS_get (ss := ss) (j := 0) (x := sector b 0) (by omega)).1
  omega
 obtain ⟨d2, g1, g2⟩ := h2.put hn (data := sector b 1) (sector_length b 1) (j := 1) (by omega) (by decide)
 have e2 := fl_put_eq h2 hn (j := 1) (data := sector b 1) (sector_length b 1) (by omega) (by decide)
 rw [h1] at e1
 rw [g1] at e2
 have e1 := congrArg Prod.fst e1
 have e2 := congrArg Prod.fst e2
 simp only at e1 e2
 have hp : puts nm b 2 0 d = (d2, 0) := by
  show (if (d.put nm ((0 : Nat) : Int) (sector b 0)).2 ≠ 0 then d.put nm ((0 : Nat) : Int) (sector b 0) else puts nm b 1 1 (d.put nm ((0 : Nat) : Int) (sector b 0)).1) = _
  rw [h1]
  show (if (d1.put nm ((1 : Nat) : Int) (sector b 1)).2 ≠ 0 then d1.put nm ((1 : Nat) : Int) (sector b 1) else puts nm b 0 2 (d1.put nm ((1 : Nat) : Int) (sector b 1)).1) = _
  rw [g1]; rfl
 have hsafe : d.safe = d.now := by have := h.now; rw [hst] at this; exact this
 have s1 : d1.steps = [⟨1, f, ((0 : Nat) : Int), sector b 0, [], []⟩] := by rw [e1]; show d.steps ++ _ = _; rw [hst]; rfl
 have s2 : d2.steps = [⟨1, f, ((0 : Nat) : Int), sector b 0, [], []⟩, ⟨1, f, ((1 : Nat) : Int), sector b 1, [], []⟩] := by rw [e2]; show d1.steps ++ _ = _; rw [s1]; rfl
 have f2 : d2.safe = d.now := by rw [e2]; show d1.safe = _; rw [e1]; exact hsafe
 have hk : keepL [true] 0 d2.steps d2.safe = d.now.does ⟨1, f, ((0 : Nat) : Int), sector b 0, [], []⟩ := by rw [s2, f2]; rfl
 refine ⟨d2, hp, ?_⟩
 unfold Dsk.crash
 rw [hk]
 have hd1 : d.now.does ⟨1, f, ((0 : Nat) : Int), sector b 0, [], []⟩ = d1.now := by rw [e1]
 rw [hd1]
 refine ⟨⟨⟨rfl, rfl, rfl⟩, h2.names, ?_, rfl, fun i x hx => by simp at hx⟩, rfl⟩
 show heldF d1.now f = _
 unfold heldF
 rw [h2.names, if_pos (by simp), h2.file]
 unfold putS
 match ss, hl with
 | [s], _ => rfl
theorem trim_small (hn : named nm = true) {B : Byts} (h : Fl d nm f ss) (hB : B.length < 62) : ∃ d', trimD nm B d = (d', 0) ∧ Fl d' nm f ((List.range (nsec B)).map (sector B)) ∧ d'.steps = [] := by
 have hns : nsec B = (B.length + 61) / 62 := rfl
 have h0 : B.length / 62 = 0 := by omega
 obtain ⟨d1, s1, p1, p2, p3, p4, p5⟩ := Fl.puts hn (b := B) (nsec B - B.length / 62) (B.length / 62) d ss h (by omega) (by omega)
 rw [show B.length / 62 + (nsec B - B.length / 62) = nsec B by omega] at p3 p5
 obtain ⟨d2, c1, c2⟩ := p2.cut (n := nsec B) (by rw [p3]; omega)
 obtain ⟨d3, y1, y2, y3⟩ := c2.sync
 unfold trimD
 rw [p1]
 simp only []
 rw [if_neg (by simp), c1]
 simp only []
 rw [if_neg (by simp), y1]
 have e : s1.take (nsec B) = (List.range (nsec B)).map (sector B) := by
  apply List.ext_getElem?
  intro i
  by_cases hi : i < nsec B
  ·rw [List.getElem?_take, if_pos hi, p5 i (by omega) hi]; simp [hi]
  ·rw [List.getElem?_eq_none (by simp; omega), List.getElem?_eq_none (by simp; omega)]
 exact ⟨d3, rfl, by rw [← e]; exact y2, y3⟩
theorem open_small (hn : named nm = true) (h : Fl d nm f ss) (hst : d.steps = []) (h64 : ∀ s ∈ ss, s.length = 64) (hk : (kept ss.flatten).length < 62) :
  ∃ d', openD nm d = (d', 0) ∧ Fl d' nm f ((List.range (nsec (kept ss.flatten))).map (sector (kept ss.flatten))) ∧ d'.steps = [] := by
 unfold openD
 rw [h.read]
 simp only []
 rw [if_neg (by simp)]
 by_cases hc : clean (kept ss.flatten) = ss.flatten
 ·rw [if_pos (by simpa using hc)]
  have e : (List.range (nsec (kept ss.flatten))).map (sector (kept ss.flatten)) = ss := flat_inj (fun s hs => by
   obtain ⟨i, _, rfl⟩ := List.mem_map.1 hs
   exact sector_length _ _) h64 hc
  exact ⟨d, rfl, by rw [e]; exact h, hst⟩
 ·rw [if_neg (by simpa using hc)]
  exact trim_small hn h hk
theorem kept_first {t : Byts} (ht : t.length = 60) : stream (sector (cat [[97], t]) 0) = (cat [[97], t]).take 62 ∧ kept (sector (cat [[97], t]) 0) = frame [97] ∧ ends (stream (sector (cat [[97], t]) 0)) = [5] := by
 have hl : (cat [[97], t]).length = 69 := by simp [cat, frame, be4, ht]
 have hS : Sect [sector (cat [[97], t]) 0] ((cat [[97], t]).take 62) := by
  refine ⟨by unfold nsec; simp [hl], fun i hi => ?_⟩
  have : i = 0 := by simp at hi; omega
  subst this
  exact (sector_ok (cat [[97], t]) 0).take (by omega)
 have hst := hS.stream
 simp only [List.flatten_cons, List.flatten_nil, List.append_nil] at hst
 obtain ⟨q, q1, q2, q3, q4⟩ := cat_take 2 [[97], t] 62 rfl (by simp [ht]) (by omega)
 have h1 : 1 ≤ q := q4 1 (by simp) (by simp [cat, frame, be4])
 have h2 : q ≠ 2 := by
  rintro rfl
  have : (cat ([[97], t].take 2)).length = 69 := hl
  omega
 have q1 : q ≤ 2 := q1
 obtain rfl : q = 1 := by omega
 have hE : ends (cat ([[97], t].take 1)) = [5] := by
  have := ends_app (b := []) (t := [97]) (by decide) rfl
  exact this
 have hends : ends (stream (sector (cat [[97], t]) 0)) = [5] := by rw [hst, q2, hE]
 refine ⟨hst, ?_, hends⟩
 unfold kept
 rw [hends, hst]
 show ((cat [[97], t]).take 62).take 5 = _
 rw [List.take_take]
 rfl
end
section
variable {hk : Hook} {A B : Nat → Prop} {I : List Nat} {w0 w w' : AW} {D S : Nat} {i i' : DI} {d d' : Dsk} {k k' : Nat} {L L' : Obs} {K : AV → AW → Prop} {nm bs b : Byts} {v : AV}
theorem s53 (hh : HK hk) (h : lenS v = some (.int .i64 (b.length : Nat))) (hb : b.length < 2 ^ 30) (hK : K (.int .i64 (nsec b : Nat)) w) : Cl Try.prog hk 53 [v] w K := by
 apply in53 (hh.no _ _ _ (by decide) (by decide))
 unfold F53
 refine ⟨_, h, ?_⟩
 refine (show ∀ {K : Int → Prop} {x : Int}, K x → be x K from fun h => h) ?_
 rw [wi_eq (x := (b.length : Int) + 62) (by omega) (by omega), wi_eq (x := (b.length : Int) + 62 - 1) (by omega) (by omega)]
 rw [show (b.length : Int) + 62 - 1 = ((b.length + 61 : Nat) : Int) by omega, show Int.tdiv ((b.length + 61 : Nat) : Int) 62 = (((b.length + 61) / 62 : Nat) : Int) from rfl, wi_eq (by omega) (by omega)]
 exact hK
def secN (part : Byts) (k : Nat) : Byts := UInt8.ofNat part.length :: 0 :: (part.take k ++ List.replicate (62 - k) 0)
theorem secN_set {part : Byts} {k : Nat} (hk : k < part.length) (hp : part.length ≤ 62) : (secN part k).set (2 + k) part[k] = secN part (k + 1) := by
 unfold secN
 rw [show 2 + k = k + 1 + 1 by omega, List.set_cons_succ, List.set_cons_succ]
 congr 2
 rw [List.set_append_right _ _ (by simp; omega), List.length_take, Nat.min_eq_left (by omega), Nat.sub_self]
 obtain ⟨m, hm⟩ : ∃ m, 62 - k = m + 1 := ⟨61 - k, by omega⟩
 rw [hm, List.replicate_succ, List.set_cons_zero, List.take_succ_eq_append_getElem hk, List.append_assoc]
 rw [show 62 - (k + 1) = m by omega]; rfl
theorem secN_length (part : Byts) {k : Nat} (hk : k ≤ part.length) (hp : part.length ≤ 62) : (secN part k).length = 64 := by
 unfold secN; simp; omega
theorem s54 {i0 : Nat} (hh : HK hk) (hm : Mem w) (hw : 0 < w.size) (h : (rL rU).rd B w [v] b) (hb : b.length < 2 ^ 30) (hi : i0 * 62 ≤ b.length) (hK : ∀ w', Fr w.size w w' → Box w' w.size (cellsOfBytes (sector b i0)) → K (.slice w.size 0 64 64 none) w') : Cl Try.prog hk 54 [v, .int .i64 (i0 : Int)] w K := by
 apply in54 (hh.no _ _ _ (by decide) (by decide))
 unfold F54
 have e1 : imin (wi ((i0 : Int) * 62)) ((b.length : Nat) : Int) = ((i0 * 62 : Nat) : Int) := by
  rw [wi_eq (by omega) (by omega)]; unfold imin; split <;> omega
 have e2 : imin (wi (wi ((i0 : Int) + 1) * 62)) ((b.length : Nat) : Int) = ((min ((i0 + 1) * 62) b.length : Nat) : Int) := by
  rw [wi_eq (x := (i0 : Int) + 1) (by omega) (by omega), wi_eq (by omega) (by omega)]; unfold imin; split <;> omega
 refine ⟨_, h.len', _, h.len', ?_⟩
 rw [e1, e2]
 obtain ⟨v4, hc, hr⟩ := h.cut (i := i0 * 62) (j := min ((i0 + 1) * 62) b.length) (by omega) (by omega) (.inl rfl) (.inl rfl)
 have hpart : (b.take (min ((i0 + 1) * 62) b.length)).drop (i0 * 62) = (b.drop (i0 * 62)).take 62 := by
  rw [List.drop_take]
  by_cases hq : (i0 + 1) * 62 ≤ b.length
  ·rw [Nat.min_eq_left hq, show (i0 + 1) * 62 - i0 * 62 = 62 by omega]
  ·rw [Nat.min_eq_right (by omega), List.take_of_length_le (by simp), List.take_of_length_le (by simp; omega)]
 rw [hpart] at hr
 have hsec : sector b i0 = secN ((b.drop (i0 * 62)).take 62) ((b.drop (i0 * 62)).take 62).length := by
  unfold sector secN
  rw [List.take_length]
 rw [hsec] at hK
 have hpl : ((b.drop (i0 * 62)).take 62).length ≤ 62 := by simp; omega
 generalize (b.drop (i0 * 62)).take 62 = part at *
 refine onM_s hc (gd_t (by decide) (new_of hm fun w6 f6 b6 z6 => ?_))
 rw [repl_eq] at b6
 have b6 : Box w6 w.size (cellsOfBytes (List.replicate 64 0)) := by
  have e : List.replicate 64 (AV.int .u8 0) = cellsOfBytes (List.replicate 64 0) := by simp [cellsOfBytes]
  rw [← e]; exact b6
 refine ⟨_, hr.len', ?_⟩
 refine idx0 (k := 0) (by decide) ?_
 rw [u8_cell]
 refine b6.put' f6.mem (by omega) (by rw [cellsOfBytes_length]; simp) fun w10 c10 b10 z10 => ?_
 rw [bytes_set _ _ _ (by simp)] at b10
 have f10 : Fr w.size w w10 := f6.trans (c10.fr (n := w.size) (by omega) (by simp)) (Nat.le_refl _)
 refine loopP_ind (fun m l w13 => ∃ k : Nat, k ≤ part.length ∧ m = part.length - k ∧ l = [.int .i64 k] ∧ Fr w.size w w13 ∧ w.size < w13.size ∧ Box w13 w.size (cellsOfBytes (secN part k))) ?_
  ⟨0, Nat.zero_le _, rfl, rfl, f10, by omega, b10⟩
 rintro m l w13 ⟨k, hk, rfl, rfl, f13, z13, b13⟩ R ih
 have hr13 := hr.rsB.fr hm f13 (Nat.le_refl _)
 refine ⟨_, rfl, fun _ => ⟨_, hr13.len, ifT_d (fun hc => ?_) fun hc => ?_⟩⟩
 ·have hkl : k < part.length := by omega
  refine Rs.at hr13 (by omega) (by omega) fun b16 o17 hf _ => ⟨(part[k].toNat : Int), ?_, ?_⟩
  ·have := hf 0 (by decide)
   rw [show o17 + 0 = o17 from rfl] at this
   rw [this]
   show (cellsOfBytes part)[k * 1 + 0]? = _
   rw [show k * 1 + 0 = k by omega]
   simp [cellsOfBytes, hkl]
  ·rw [show wi (2 + (k : Int)) = ((2 + k : Nat) : Int) by rw [wi_eq (by omega) (by omega)]; rfl]
   refine idx0 (k := 2 + k) (by omega) ?_
   have hsl := secN_length part hk hpl
   refine b13.put' f13.mem (by omega) (by rw [cellsOfBytes_length, hsl]; simp; omega) fun w21 c21 b21 z21 => ?_
   rw [bytes_set _ _ _ (by omega), secN_set hkl hpl] at b21
   exact ih (part.length - (k + 1)) (by omega) _ _ ⟨k + 1, hkl, rfl, by rw [wi_eq (by omega) (by omega)]; rfl, f13.trans (c21.fr (n := w.size) (by omega) (by simp)) (Nat.le_refl _), by omega, b21⟩
 ·obtain rfl : k = part.length := by omega
  exact hK w13 f13 b13
end
end Go.Proofs.Ytdlogcincelccaa
/-
 SegmentNumbers.
 No condition beyond those that each theorem names.
-/
set_option linter.unusedSimpArgs false
open Go.Sx
set_option linter.unusedVariables false
set_option linter.unusedSimpArgs false
namespace Go.Proofs.Ytdlogcincelccaa
abbrev T1 : Nat → Prop := fun _ => True
def Lq (d : Dsk) (nm b : Byts) (j : Nat) : Prop := (j = 0 ∧ d = Dsk.none) ∨ ∃ ss, Fl d nm 1 ss ∧ ss.length = j ∧ ∀ q, q < j → ss[q]? = some (sector b q)
theorem Lq.put {d : Dsk} {nm b : Byts} {j : Nat} (hn : named nm = true) (h : Lq d nm b j) (hj : j < 4096) : ∃ d', d.put nm (j : Int) (sector b j) = (d', 0) ∧ Lq d' nm b (j + 1) := by
 rcases h with ⟨rfl, rfl⟩ | ⟨ss, h1, h2, h3⟩
 ·obtain ⟨d', g1, g2⟩ := Fl.first hn (sector_length b 0)
  refine ⟨d', g1, .inr ⟨_, g2, rfl, fun q hq => ?_⟩⟩
  obtain rfl : q = 0 := by omega
  rfl
 ·obtain ⟨d', g1, g2⟩ := h1.put hn (sector_length b j) (j := j) (by omega) hj
  obtain ⟨p1, p2, p3⟩ := putS_get (ss := ss) (j := j) (x := sector b j) (by omega)
  refine ⟨d', g1, .inr ⟨_, g2, by omega, fun q hq => ?_⟩⟩
  by_cases hqj : q = j
  ·subst hqj; exact p3
  ·exact (p2 q (by omega)).trans (h3 q (by omega))
theorem Lq.sect {d : Dsk} {nm b : Byts} (h : Lq d nm b (nsec b)) (hb : 0 < nsec b) : ∃ ss, Fl d nm 1 ss ∧ Sect ss b := by
 rcases h with ⟨h0, _⟩ | ⟨ss, h1, h2, h3⟩
 ·omega
 ·refine ⟨ss, h1, h2, fun i hi => ?_⟩
  have := h3 i (by omega)
  rw [List.getElem?_eq_getElem hi] at this
  have : ss[i] = sector b i := by simpa using this
  rw [this]; exact sector_ok b i
section
variable {hk : Hook} {A B : Nat → Prop} {I : List Nat} {w0 w w' : AW} {D S : Nat} {i i' : DI} {d d' : Dsk} {k k' : Nat} {L L' : Obs} {K : AV → AW → Prop} {nm bs b : Byts} {v : AV}
theorem zeros {n : Nat} (h : Dk A I w0 w D i d k L) (hn : n < 2 ^ 40) {K : Nat → AW → Prop} (hK : ∀ b w', Dk A I w0 w' D i d k L → Xt (dkU D i L) w (dkU D i L) w' → (rL rU).rd (fz A (dkU D i L)) w' [.slice b 0 n n none] (List.replicate n 0) → K b w') :
  onM (asN (.int .i64 (n : Int))) fun n2 => onM (asN (.int .i64 (n : Int))) fun n3 => gd (Nat.ble n2 n3 && Nat.ble (n3 * 1) (2 ^ 47) && Nat.blt n3 (2 ^ 63) && true) (new w (repl n3 [(.int .u8 0)]) fun b w => K b w) := by
 refine onM_s (v := n) rfl (onM_s (v := n) rfl (gd_t ?_ (h.new' fun b w' h' x' => ?_)))
 ·rw [show Nat.ble n n = true by rw [Nat.ble_eq]; omega, show Nat.ble (n * 1) (2 ^ 47) = true by rw [Nat.ble_eq]; omega, show Nat.blt n (2 ^ 63) = true by rw [Nat.blt_eq]; omega]; rfl
 obtain ⟨h2, x2, a2, b2⟩ := h'.drop
 have b2 : Box w' b (repl n [.int .u8 0]) := b2
 rw [repl_eq, show List.replicate n (AV.int .u8 0) = cellsOfBytes (List.replicate n 0) by simp [cellsOfBytes]] at b2
 exact hK b w' h2 (x'.trans x2) (Box.sl b2 a2 (by simp) (Chk.bytes.2 rfl))
set_option maxRecDepth 20000 in
theorem s28 (hh : HK hk) (pv : Pv T1 w) (hK : ∀ w', K (.bool true) w') : Cl Try.prog hk 28 [] w K := by
 apply in28 (hh.no _ _ _ (by decide) (by decide))
 unfold F28
 have hn : named [115] = true := rfl
 obtain ⟨n, hn0⟩ : ∃ n : Nat, n = 65537 := ⟨_, rfl⟩
 rw [show (65537 : Int) = ((n : Nat) : Int) by omega]
 refine s8 hh pv.st fun D i0 w1 h1 x1 => ?_
 refine h1.new' fun b2 w3 h3 x3 => ?_
 obtain ⟨h4, x4, a4, bx4⟩ := h3.drop
 have bx4 : Box w3 b2 (cellsOfBytes [0, 1, 0, 1]) := bx4
 rw [appendA_eq (by omega)]
 have hz := Bhd.str w3 (List.replicate n 0)
 have hg : Ga rU (fz T1 (dkU D i0 [])) w w3 (.slice b2 0 4 4 none) [0, 1, 0, 1] := boxGa bx4 rfl (by
  rcases (h3.ow.box (b2, _) (nth_mem (i := 6) rfl) rfl).2.1 with h | h
  ·exact h
  ·cases h) a4 (h3.ow.box (b2, _) (nth_mem (i := 6) rfl) rfl).2.2.2
 refine Ow.appSrc (r := rU) (l' := List.replicate n 0) h4.ow hg hz (Chk.bytes.2 rfl) (by decide) (fun _ _ => trivial) (by simp; omega) (by simp; omega) fun v4 w5 st5 x5 hg5 => ?_
 have x5 : Xw (dkU D i0 []) w3 (dkU D i0 []) w5 := x5
 have h5 : Dk T1 [] w w5 D i0 Dsk.none 0 [] := ⟨st5, h4.st, h4.f1.y x5, h4.f2.y x5, h4.V, h4.k27⟩
 have hb5 : (rL rU).rd (fz T1 (dkU D i0 [])) w5 [v4] ([0, 1, 0, 1] ++ List.replicate n 0) := hg5.rd (by decide)
 have hbl : ([0, 1, 0, 1] ++ List.replicate n 0 : Byts).length = 65541 := by rw [List.length_append, List.length_replicate, hn0]; rfl
 have hu : u32 ([0, 1, 0, 1] ++ List.replicate n 0) 0 = 65537 := by
  unfold u32
  simp
 have hE : ends ([0, 1, 0, 1] ++ List.replicate n 0) = [] := by
  unfold ends
  rw [parseN, if_pos (by omega), hu, if_pos (.inl (by omega))]
 generalize ([0, 1, 0, 1] ++ List.replicate n 0 : Byts) = b at *
 have hns : nsec b = 1058 := by unfold nsec; omega
 refine loopP_ind (fun m l w8 => ∃ (j : Nat) (i' : DI) (d' : Dsk), m = 1058 - j ∧ j ≤ 1058 ∧ l = [.int .i64 j] ∧ Dk T1 [] w w8 D i' d' (2 * j) [] ∧ (rL rU).rd (fz T1 (dkU D i' [])) w8 [v4] b ∧ Lq d' [115] b j) ?_
  ⟨0, i0, _, rfl, Nat.zero_le _, rfl, h5, hb5, .inl ⟨rfl, rfl⟩⟩
 rintro m l w8 ⟨j, i8, d8, rfl, hj, rfl, h8, hb8, hq⟩ R ih
 refine ⟨_, rfl, fun _ => s53 (b := b) hh hb8.len' (by omega) ⟨_, rfl, ?_⟩⟩
 rw [hns]
 refine ifT_d (fun hc => ?_) fun hc => ?_
 ·have hj8 : j < 1058 := by omega
  refine s54 hh h8.ow.mem h8.ow.P0.pos hb8 (by omega) (by omega) fun w14 f14 b14 => ?_
  obtain ⟨h14, x14⟩ := h8.fr f14
  have hrs : RsB w14 (.slice w8.size 0 64 64 none) (sector b j) := boxB b14 (sector_length b j)
  obtain ⟨d9, hp, hq9⟩ := hq.put hn (by omega)
  refine s9 hh h14 (by omega) hrs ?_
  rw [hp]
  intro i9 w9 h9 x9
  refine ⟨0, rfl, ifT_f (ih (1058 - (j + 1)) (by omega) _ _ ⟨j + 1, i9, d9, rfl, hj8, by rw [wi_eq (by omega) (by omega)]; rfl, h9, (hb8.x x14).x x9, hq9⟩)⟩
 ·obtain rfl : j = 1058 := by omega
  rw [← hns] at hq
  obtain ⟨ss, hF, hS⟩ := hq.sect (by omega)
  have hfl := flat_len hS.l64
  have hsl := hS.len
  have hk0 : kept ss.flatten = [] := by
   unfold kept
   rw [hS.stream, hE]; rfl
  have hst0 : d8.steps.length = d8.steps.length := rfl
  obtain ⟨d9, hy, hF9⟩ : ∃ d9, openD [115] d8 = (d9, 0) ∧ Fl d9 [115] 1 [] := by
   unfold openD
   rw [hF.read]
   simp only []
   rw [if_neg (by simp), hk0]
   have hne : (clean [] == ss.flatten) = false := by
    rw [beq_eq_false_iff_ne]
    intro e
    have := congrArg List.length e
    rw [hfl, hsl, hns] at this
    simp [clean, cleanN, nsec] at this
   rw [hne]
   obtain ⟨d9, g1, g2, _⟩ := trim_small hn (B := []) hF (by simp)
   exact ⟨d9, g1, g2⟩
  refine s11 hh h8 (by rw [hF.read]; show ss.flatten.length ≤ _; omega) (by decide) (fun hne => absurd (by rw [hy]) hne) (fun _ S bv ev ef eo i19 w19 h19 x19 hbv hsv => ⟨_, _, rfl, ?_⟩)
  rw [hy] at h19
  rw [hF.read, hS.stream, hE] at hsv
  refine s26 hh h19 fun v24 w23 f23 hg23 => ⟨_, _, rfl, ?_⟩
  rw [hF9.read] at hg23 ⊢
  obtain ⟨h23, x23⟩ := h19.fr f23
  have hrs := h23.ow.sv (i := 7) (f := ef) (o := eo) rfl hsv (by decide) (k := 0) rfl
  refine ifT_t (s23 (E := []) hh (h23.ow.ld 6 rfl rfl) hrs ⟨_, rfl, ifT_t ⟨_, (hg23.rd (by decide)).len', ?_⟩⟩)
  exact hK w23
end
end Go.Proofs.Ytdlogcincelccaa
/-
 The law of the examples.
 No condition beyond those that each theorem names.
-/
set_option linter.unusedSimpArgs false
open Go.Sx
set_option linter.unusedVariables false
set_option linter.unusedSimpArgs false
namespace Go.Proofs.Ytdlogcincelccaa
section
variable {hk : Hook} {A B : Nat → Prop} {I : List Nat} {w0 w w' : AW} {D S : Nat} {i i' : DI} {d d' : Dsk} {k k' : Nat} {L L' : Obs} {K : AV → AW → Prop} {nm bs b : Byts} {v : AV} {f : Int} {ss : List Byts}
theorem ecst (E : List Nat) : (E.map fun n : Nat => ((n : Nat) : Int)).map (AV.int .i64) = cst E := by simp [cst]
theorem sync_down (h : Fl d nm f ss) : ∃ d', ({ d with arm := 1 } : Dsk).sync nm = (d', 6) := by
 refine ⟨(({ d with arm := 1 } : Dsk).sync nm).1, ?_⟩
 have h2 : (({ d with arm := 1 } : Dsk).sync nm).2 = 6 := by
  have hg : nget ({ d with arm := 1 } : Dsk).now.names nm = some f := h.get
  have hs : ({ d with arm := 1 } : Dsk).stopped.2 = 6 := by
   unfold Dsk.stopped
   have : d.down = false := h.qt.1
   simp only [this]
   rfl
  unfold Dsk.sync
  rw [hg]
  unfold Dsk.settle
  simp only []
  rw [if_pos (by rw [hs]; decide)]
  exact hs
 rw [← h2]
theorem none_read (h : Fl d [115] f ss) : d.read [110, 101, 119] = ([], 70) ∧ openD [110, 101, 119] d = (d, 0) ∧ d.sync [110, 101, 119] = (d, 70) := by
 have hg : nget d.now.names [110, 101, 119] = none := by rw [h.names]; rfl
 have hrd : d.read [110, 101, 119] = ([], 70) := by unfold Dsk.read; rw [hg]
 refine ⟨hrd, ?_, by unfold Dsk.sync; rw [hg]⟩
 unfold openD
 rw [hrd]
 simp only []
 rw [if_neg (by simp)]
 have : (clean (kept []) == ([] : Byts)) = true := by rfl
 rw [this, if_pos rfl]
theorem be_eq {α : Type} {x y : α} {K : α → Prop} (e : x = y) (h : K y) : be x K := by
 subst e; exact h
theorem conv_same {b n cap : Nat} {cs : List AV} {ex : Option Nat} (hb : Box w b cs) (h0 : b ≠ 0) (hc : 0 < cap) : convA Try.prog w 23 23 (.slice b 0 n cap ex) = some (.slice b 0 n cap ex) := by
 unfold convA
 rw [Try.underlying23]
 have e1 : (Nat.beq 23 23 && !cap.beq 0 && !b.beq 0) = true := by
  have h1 : cap.beq 0 = false := by
   cases hq : cap.beq 0 with
   | false => rfl
   | true => have := Nat.eq_of_beq_eq_true hq; omega
  have h2 : b.beq 0 = false := by
   cases hq : b.beq 0 with
   | false => rfl
   | true => have := Nat.eq_of_beq_eq_true hq; omega
  rw [h1, h2]; rfl
 have t1 : tdSlice (TypeDesc.slice 5) = some 5 := rfl
 have t2 : tdString (TypeDesc.slice 5) = false := rfl
 have t3 : tdU8 (TypeDesc.int .u8) = true := rfl
 simp only [Option.bind_some, t1, t2, t3, cond_false, Try.underlying5, hb.fam, e1, guardO, cond_true]
set_option maxRecDepth 20000 in
theorem s6 (hh : HK hk) (pv : Pv T1 w) : Cl Try.prog hk 6 [] w fun r _ => r = .bool true := by
 apply in6 (hh.no _ _ _ (by decide) (by decide))
 unfold F6
 have hn : named [115] = true := rfl
 obtain ⟨N1, hN1⟩ : ∃ n : Nat, n = 65536 := ⟨_, rfl⟩
 obtain ⟨N2, hN2⟩ : ∃ n : Nat, n = 57329 := ⟨_, rfl⟩
 obtain ⟨N3, hN3⟩ : ∃ n : Nat, n = 57328 := ⟨_, rfl⟩
 obtain ⟨N4, hN4⟩ : ∃ n : Nat, n = 65537 := ⟨_, rfl⟩
 obtain ⟨N5, hN5⟩ : ∃ n : Nat, n = 253952 := ⟨_, rfl⟩
 rw [show (65536 : Int) = ((N1 : Nat) : Int) by omega, show (57329 : Int) = ((N2 : Nat) : Int) by omega, show (57328 : Int) = ((N3 : Nat) : Int) by omega, show (65537 : Int) = ((N4 : Nat) : Int) by omega, show (253952 : Int) = ((N5 : Nat) : Int) by omega]
 refine s8 hh pv.st fun D i0 w1 h1 x1 => ?_
 refine s11 hh h1 (by show (Dsk.none.read [115]).1.length ≤ _; exact Nat.zero_le _) (by decide) (fun hne => absurd (by rw [open_none]) hne) (fun _ S1 bv1 ev1 ef1 eo1 i3 w3 h3 x3 hbv1 hsv1 => ⟨_, _, rfl, ?_⟩)
 rw [open_none] at h3
 have hbv1 : (rL rU).rd (fz T1 (dkU D i3 ((S1, .row (segC D [115] bv1 ev1 false)) :: (ef1, eo1) :: []))) w3 [bv1] [] := hbv1
 have hsv1 : Sv 1 eo1 ev1 (cst []) := hsv1
 refine h3.new' fun b6 w7 h7 x7 => ?_
 obtain ⟨h8, x8, a8, bx8⟩ := h7.drop
 have bx8 : Box w7 b6 (cellsOfBytes [97]) := bx8
 have hr8 : (rL rU).rd (fz T1 (dkU D i3 ((S1, .row (segC D [115] bv1 ev1 false)) :: (ef1, eo1) :: []))) w7 [.slice b6 0 1 1 none] [97] := Box.sl bx8 a8 rfl (Chk.bytes.2 rfl)
 refine onM_s (v := .slice b6 0 1 1 none) (conv_same bx8 (h7.ow.box (b6, _) (nth_mem (i := 6) rfl) rfl).2.2.2 (by decide)) ?_
 obtain ⟨d9, ss9, hp9, hF9, hS9⟩ := app_first (t := [97]) hn (by decide)
 refine s16 (bs := []) (body := [97]) (es := []) hh h8 ((hbv1.x x7).x x8) hsv1 (fun w' _ _ _ _ hx => (hr8.x hx).rsB) (by decide) (by decide) (by decide) (by decide) (fun _ i10 w10 bv2 ev2 ef2 eo2 h10 x10 hbv2 hsv2 => ⟨_, _, rfl, ?_⟩) (fun hne => absurd (by rw [hp9]) hne)
 rw [hp9] at h10
 obtain ⟨d14, hy14, hF14, hst14⟩ := hF9.sync
 refine s17 hh h10 fun i14 w14 h14 x14 => ?_
 rw [hy14] at h14 x14 ⊢
 have h14 : Dk T1 [] w w14 D i14 d14 (0 + 10000 + 10000) ((S1, .row (segC D [115] bv2 ev2 false)) :: (ef2, eo2) :: []) := h14
 have x14 : Xt (dkU D i10 ((S1, .row (segC D [115] bv2 ev2 false)) :: (ef2, eo2) :: [])) w10 (dkU D i14 ((S1, .row (segC D [115] bv2 ev2 false)) :: (ef2, eo2) :: [])) w14 := x14
 refine ⟨_, rfl, s25 hh h14.ow.mem h14.ow.P0.pos (n := 60) (by decide) fun t w17 f17 b17 ht => ?_⟩
 obtain ⟨h17, x17⟩ := h14.fr f17
 have ha17 : fz T1 (dkU D i14 ((S1, .row (segC D [115] bv2 ev2 false)) :: (ef2, eo2) :: [])) w14.size := ⟨trivial, fun hm => absurd (h14.ow.ids_lt hm) (by omega)⟩
 have hr17 : (rL rU).rd (fz T1 (dkU D i14 ((S1, .row (segC D [115] bv2 ev2 false)) :: (ef2, eo2) :: []))) w17 [.slice w14.size 0 60 60 none] t := Box.sl b17 ha17 ht.symm (Chk.bytes.2 rfl) (Nat.le_refl _) rfl
 have hB5 : ([] ++ frame [97] : Byts).length = 5 := rfl
 have hcat : cat [[97], t] = ([] ++ frame [97]) ++ frame t := by simp [cat]
 have hl69 : (([] ++ frame [97]) ++ frame t : Byts).length = 69 := by rw [List.length_append, frame_length, hB5, ht]
 obtain ⟨d19, hp19, hF19, hst19⟩ := crash_one (b := ([] ++ frame [97]) ++ frame t) hn hF14 hst14 (by rw [hS9.len]; rfl)
 have hp19 : puts [115] (([] ++ frame [97]) ++ frame t) (nsec (([] ++ frame [97]) ++ frame t) - ([] ++ frame [97] : Byts).length / 62) (([] ++ frame [97] : Byts).length / 62) d14 = (d19, 0) := by
  have e1 : nsec (([] ++ frame [97]) ++ frame t) - ([] ++ frame [97] : Byts).length / 62 = 2 := by unfold nsec; omega
  have e2 : ([] ++ frame [97] : Byts).length / 62 = 0 := by omega
  rw [e1, e2]; exact hp19
 refine s16 (bs := [] ++ frame [97]) (body := t) (es := [5]) hh h17 ((hbv2.x x14).x x17) hsv2 (fun w' _ _ _ _ hx => (hr17.x hx).rsB) (by omega) (by omega) (by decide) (by decide) (fun _ i19 w19 bv3 ev3 ef3 eo3 h19 x19 hbv3 hsv3 => ⟨_, _, rfl, ?_⟩) (fun hne => absurd (by rw [hp19]) hne)
 rw [hp19] at h19
 refine h19.new' fun b22 w23 h23 x23 => ?_
 obtain ⟨h24, x24, a24, bx24⟩ := h23.drop
 have bx24 : Box w23 b22 [.bool true] := bx24
 have hkv : (rL rT).rd (fz T1 (dkU D i19 ((S1, .row (segC D [115] bv3 ev3 false)) :: (ef3, eo3) :: []))) w23 [.slice b22 0 1 1 none] [true] := Box.sl bx24 a24 rfl (Chk.one rfl)
 refine s18 (keep := [true]) hh h24 (by decide) hkv ?_
 intro i25 w25 h25 x25
 obtain ⟨k1, k2, k3⟩ := kept_first (t := t) ht
 rw [hcat] at k1 k2 k3
 have hrd25 := hF19.read
 have hfl : [sector (([] ++ frame [97]) ++ frame t) 0].flatten = sector (([] ++ frame [97]) ++ frame t) 0 := by simp
 obtain ⟨d28, ho28, hF28, hst28⟩ := open_small hn hF19 hst19 (fun s hs => by simp at hs; subst hs; exact sector_length _ _) (by rw [hfl, k2]; decide)
 rw [hfl, k2] at hF28
 refine ⟨_, rfl, s11 hh h25 (by rw [hrd25]; show ([sector _ 0].flatten).length ≤ _; rw [hfl, sector_length]; decide) (by decide) (fun hne => absurd (by rw [ho28]) hne) (fun _ S2 bv4 ev4 ef4 eo4 i28 w28 h28 x28 hbv4 hsv4 => ⟨_, _, rfl, ?_⟩)⟩
 rw [ho28] at h28
 rw [hrd25] at hbv4 hsv4
 have hbv4 : (rL rU).rd (fz T1 (dkU D i28 ((S2, .row (segC D [115] bv4 ev4 false)) :: (ef4, eo4) :: (S1, .row (segC D [115] bv3 ev3 false)) :: (ef3, eo3) :: []))) w28 [bv4] (frame [97]) := by rw [← k2, ← hfl]; exact hbv4
 have hsv4 : Sv 1 eo4 ev4 (cst [5]) := by rw [← k3, ← hfl]; exact hsv4
 have hsl : (List.range (nsec (frame [97]))).map (sector (frame [97])) = [sector (frame [97]) 0] := rfl
 rw [hsl] at hF28
 refine s26 hh h28 fun v33 w32 f32 hg33 => ⟨_, _, rfl, ?_⟩
 rw [hF28.read] at hg33
 obtain ⟨h32, x32⟩ := h28.fr f32
 have hr33 : (rL rU).rd _ w32 [v33] (sector (frame [97]) 0) := hg33.rd (by decide)
 have hln33 := hr33.len'
 rw [sector_length] at hln33
 have hev5 : ∀ {w' : AW} {i' : DI} {d' : Dsk} {k' : Nat} {ob : Obs}, Dk T1 [] w w' D i' d' k' ((S2, .row (segC D [115] bv4 ev4 false)) :: (ef4, eo4) :: ob) → Rs w' 1 ([5] : List Nat).length ev4 (cst [5]) := fun hd => hd.ow.sv (i := 7) (f := ef4) (o := eo4) rfl hsv4 (by decide) (k := 1) rfl
 refine be_eq (y := (0 : Int)) (show wi (wi (0 + 0) + 0) = 0 by decide) ?_
 refine gd_t rfl (s23 (E := [5]) hh (h32.ow.ld 6 rfl rfl) (hev5 h32) ⟨_, rfl, gd_t rfl ⟨_, hln33, gd_t rfl ?_⟩⟩)
 refine hr33.at1 rfl (i := 0) (by rw [sector_length]; decide) fun b o a hr hld => ?_
 have hld : ld w32 b o = some (.int .u8 5) := by
  have e : [a] = [.int .u8 5] := hr
  rw [hld]; cases e; rfl
 refine ⟨_, hld, gd_t rfl (hr33.at1 rfl (i := 7) (by rw [sector_length]; decide) fun b o a hr hld => ?_)⟩
 have hld : ld w32 b o = some (.int .u8 0) := by
  have e : [a] = [.int .u8 0] := hr
  rw [hld]; cases e; rfl
 refine ⟨_, hld, gd_t rfl (s13 (E := [5]) hh (h32.ow.ld 6 rfl rfl) (hev5 h32) (by decide) ⟨_, rfl, ?_⟩)⟩
 refine s19e (E := [5]) hh (h32.ow.ld 6 rfl rfl) (h32.ow.ld 6 rfl rfl) (h32.ow.ld 6 rfl rfl) (hev5 h32) (.inr (by decide)) ⟨_, _, rfl, ?_⟩
 refine s19e (E := [5]) hh (h32.ow.ld 6 rfl rfl) (h32.ow.ld 6 rfl rfl) (h32.ow.ld 6 rfl rfl) (hev5 h32) (.inl (by decide)) ⟨_, _, rfl, gd_t rfl (gd_t rfl ?_)⟩
 refine s22e (E := [5]) (br := false) hh (h32.ow.ld 6 rfl rfl) (h32.ow.ld 6 rfl rfl) (h32.ow.ld 6 rfl rfl) (hev5 h32) (.inr (.inr (by decide))) ⟨_, rfl, gd_t rfl ?_⟩
 refine s22e (E := [5]) (br := false) hh (h32.ow.ld 6 rfl rfl) (h32.ow.ld 6 rfl rfl) (h32.ow.ld 6 rfl rfl) (hev5 h32) (.inr (.inl (by decide))) ⟨_, rfl, gd_t rfl ?_⟩
 refine s22e (E := [5]) (br := false) hh (h32.ow.ld 6 rfl rfl) (h32.ow.ld 6 rfl rfl) (h32.ow.ld 6 rfl rfl) (hev5 h32) (.inr (.inr (by decide))) ⟨_, rfl, gd_t rfl ?_⟩
 obtain ⟨d67, ht67, hF67, hst67⟩ := trim_small hn (B := []) hF28 (by decide)
 have hsl0 : (List.range (nsec [])).map (sector []) = [] := rfl
 rw [hsl0] at hF67
 refine s22 (m := 0) (E := [5]) (bs := frame [97]) hh h32 (hbv4.x x32) hsv4 (by decide) (by decide) (by decide) (by decide) (by decide) fun i67 w67 bv5 ev5 ef5 eo5 h67 x67 hbv5 hsv5 => ⟨_, rfl, ?_⟩
 have e67 : trimD [115] ((frame [97]).take (stE [5] 0)) d28 = (d67, 0) := ht67
 rw [e67] at h67 x67 hbv5 ⊢
 have h67 : Dk T1 [] w w67 D i67 d67 _ ((S2, .row (segC D [115] bv5 ev5 false)) :: (ef5, eo5) :: (S1, .row (segC D [115] bv3 ev3 false)) :: (ef3, eo3) :: []) := h67
 have hbv5 : (rL rU).rd (fz T1 (dkU D i67 ((S2, .row (segC D [115] bv5 ev5 false)) :: (ef5, eo5) :: (S1, .row (segC D [115] bv3 ev3 false)) :: (ef3, eo3) :: []))) w67 [bv5] [] := hbv5
 have hsv5 : Sv 1 eo5 ev5 (cst []) := hsv5
 have hev0 : ∀ {w' : AW} {i' : DI} {d' : Dsk} {k' : Nat} {ob : Obs}, Dk T1 [] w w' D i' d' k' ((S2, .row (segC D [115] bv5 ev5 false)) :: (ef5, eo5) :: ob) → Rs w' 1 ([] : List Nat).length ev5 (cst []) := fun hd => hd.ow.sv (i := 7) (f := ef5) (o := eo5) rfl hsv5 (by decide) (k := 0) rfl
 refine gd_t rfl (s23 (E := []) hh (h67.ow.ld 6 rfl rfl) (hev0 h67) ⟨_, rfl, gd_t rfl (s13 (E := []) hh (h67.ow.ld 6 rfl rfl) (hev0 h67) (by decide) ⟨_, rfl, ?_⟩)⟩)
 refine s26 hh h67 fun v77 w76 f76 hg77 => ⟨_, _, rfl, s11z hh ⟨_, _, rfl, ?_⟩⟩
 rw [hF67.read] at hg77
 obtain ⟨h76, x76⟩ := h67.fr f76
 have hr77 : (rL rU).rd _ w76 [v77] [] := hg77.rd (by decide)
 have hln77 := hr77.len'
 refine join_of (fun l w84 => l = [.bool true] ∧ ∃ i84 d84 k84 ss84, k84 < 60000 ∧ Dk T1 [] w w84 D i84 d84 k84 ((S2, .row (segC D [115] bv5 ev5 false)) :: (ef5, eo5) :: (S1, .row (segC D [115] bv3 ev3 false)) :: (ef3, eo3) :: []) ∧ Fl d84 [115] 1 ss84 ∧ Sect ss84 [] ∧ (rL rU).rd (fz T1 (dkU D i84 ((S2, .row (segC D [115] bv5 ev5 false)) :: (ef5, eo5) :: (S1, .row (segC D [115] bv3 ev3 false)) :: (ef3, eo3) :: []))) w84 [bv5] []) ?_ ?_
 ·rintro l w84 ⟨rfl, i84, d84, k84, ss84, hk84, h84, hF84, hS84, hr84⟩
  refine ⟨_, rfl, fun _ => ?_⟩
  obtain ⟨Z, hZ⟩ : ∃ Z : Byts, Z = List.replicate N1 0 := ⟨_, rfl⟩
  have hZl : Z.length = 65536 := by rw [hZ, List.length_replicate, hN1]
  have hcl : ∀ j, (cat (List.replicate j Z)).length = j * 65540 := fun j => by
   induction j with
   | zero => rfl
   | succ j ih => rw [List.replicate_succ', cat_snoc, List.length_append, ih, frame_length, hZl]; omega
  have hZ64 : ∀ j, ∀ t ∈ List.replicate j Z, t.length ≤ 65536 := fun j t ht => by
   rw [List.eq_of_mem_replicate ht, hZl]; exact Nat.le_refl _
  refine loopP_ind (fun mm l w89 => ∃ (j : Nat) (i' : DI) (d' : Dsk) (k' : Nat) (ss' : List Byts) (bv' ev' : AV) (ef' : Nat) (eo' : Ob), mm = 4 - j ∧ j ≤ 3 ∧ l = [.int .i64 j] ∧ k' < 60000 + 10000 * j ∧ Dk T1 [] w w89 D i' d' k' ((S2, .row (segC D [115] bv' ev' false)) :: (ef', eo') :: (S1, .row (segC D [115] bv3 ev3 false)) :: (ef3, eo3) :: []) ∧ Fl d' [115] 1 ss' ∧ Sect ss' (cat (List.replicate j Z)) ∧
   (rL rU).rd (fz T1 (dkU D i' ((S2, .row (segC D [115] bv' ev' false)) :: (ef', eo') :: (S1, .row (segC D [115] bv3 ev3 false)) :: (ef3, eo3) :: []))) w89 [bv'] (cat (List.replicate j Z)) ∧ Sv 1 eo' ev' (cst (ends (cat (List.replicate j Z))))) ?_
   ⟨0, i84, d84, k84, ss84, bv5, ev5, ef5, eo5, rfl, by decide, rfl, hk84, h84, hF84, hS84, hr84, hsv5⟩
  rintro mm l w89 ⟨j, i89, d89, k89, ss89, bv9, ev9, ef9, eo9, rfl, hj, rfl, hk89, h89, hF89, hS89, hr89, hsv9⟩ R ih
  obtain ⟨t1, t2, t3⟩ := cat_told j (List.replicate j Z) (by simp) (hZ64 j)
  rw [List.length_replicate] at t1
  refine ⟨_, rfl, fun _ => ifT_d (fun hc => ?_) fun hc => ?_⟩
  ·-- one more
   refine zeros h89 (by omega) fun b93 w94 h94 x94 hr94 => ?_
   rw [← hZ] at hr94
   obtain ⟨d95, ss95, hp95, hF95, hS95⟩ := app_ok (t := Z) hn hF89 hS89 (by rw [hcl, hZl]; omega)
   refine s16 (body := Z) (bs := cat (List.replicate j Z)) (es := (ends (cat (List.replicate j Z))).map fun n : Nat => ((n : Nat) : Int)) hh h94 (hr89.x x94) (by rw [ecst]; exact hsv9) (fun w' _ _ _ _ hx => (hr94.x hx).rsB) (by omega) (by rw [hcl, hZl]; omega) (by rw [List.length_map, t1]; omega) (by omega) (fun _ i96 w96 bv10 ev10 ef10 eo10 h96 x96 hbv10 hsv10 => ⟨_, _, rfl, ?_⟩) (fun hne => absurd (by rw [hp95]) hne)
   rw [hp95] at h96
   rw [List.length_map, t1]
   refine ifT_nd (fun hne => absurd rfl hne) fun _ => ifT_f (ih (4 - (j + 1)) (by omega) _ _ ⟨j + 1, i96, d95, _, ss95, bv10, ev10, ef10, eo10, rfl, by omega, by rw [wi_eq (by omega) (by omega)]; rfl, ?_, h96, hF95, ?_, ?_, ?_⟩)
   ·omega
   ·rw [List.replicate_succ', cat_snoc]; exact hS95
   ·rw [List.replicate_succ', cat_snoc]; exact hbv10
   ·rw [List.replicate_succ', cat_snoc, ends_app (by omega) t2]
    have e9 : ((ends (cat (List.replicate j Z))).map (fun n : Nat => ((n : Nat) : Int)) ++ [((cat (List.replicate j Z) ++ frame Z).length : Int)]).map (AV.int .i64) = cst (ends (cat (List.replicate j Z)) ++ [(cat (List.replicate j Z) ++ frame Z).length]) := by
     unfold cst; rw [List.map_append, List.map_append, List.map_map]; rfl
    rw [← e9]; exact hsv10
  ·obtain rfl : j = 3 := by omega
   clear ih R
   generalize hC : cat (List.replicate 3 Z) = C at *
   have hCl : C.length = 196620 := by rw [← hC, hcl]
   generalize hE : ends C = E at *
   have hE2 : sizeE E = C.length := t2
   have hE3 : E.length = 3 := t1
   refine zeros h89 (by omega) fun b101 w102 h102 x102 hr102 => ?_
   refine s16f (body := List.replicate N2 0) hh h102 (hr89.x x102) hr102.rsB (fun w' f' => (hr102.x (h102.fr f').2).rsB) (fun w' _ _ _ _ hx => (hr102.x hx).rsB) (by rw [List.length_replicate]; omega) (by omega) (by rw [List.length_replicate]; omega) fun w104 h104 x104 => ⟨_, _, rfl, ?_⟩
   refine zeros h104 (by omega) fun b109 w110 h110 x110 hr110 => ?_
   generalize hY : List.replicate N3 (0 : UInt8) = Y at hr110
   have hYl : Y.length = 57328 := by rw [← hY, List.length_replicate, hN3]
   obtain ⟨d112, ss112, hp112, hF112, hS112⟩ := app_ok (t := Y) hn hF89 hS89 (by omega)
   have hr110b := ((hr89.x x102).x x104).x x110
   refine s16 (body := Y) (bs := C) (es := E.map fun n : Nat => ((n : Nat) : Int)) hh h110 hr110b (by rw [ecst]; exact hsv9) (fun w' _ _ _ _ hx => (hr110.x hx).rsB) (by omega) (by omega) (by rw [List.length_map]; omega) (by omega) (fun _ i112 w112 bv12 ev12 ef12 eo12 h112 x112 hbv12 hsv12 => ⟨_, _, rfl, ?_⟩) (fun hne => absurd (by rw [hp112]) hne)
   rw [hp112] at h112
   have hCY : (C ++ frame Y).length = 253952 := by rw [List.length_append, frame_length]; omega
   have hsw12 : Sv 1 eo12 ev12 (cst (E ++ [253952])) := by
    have e9 : ((E.map fun n : Nat => ((n : Nat) : Int)) ++ [((C ++ frame Y).length : Int)]).map (AV.int .i64) = cst (E ++ [253952]) := by
     unfold cst; rw [List.map_append, List.map_append, List.map_map, hCY]; rfl
    rw [← e9]; exact hsv12
   generalize hCY2 : C ++ frame Y = G at *
   have hev12 : ∀ {w' : AW} {i' : DI} {d' : Dsk} {k' : Nat} {br : Bool} {ob : Obs}, Dk T1 [] w w' D i' d' k' ((S2, .row (segC D [115] bv12 ev12 br)) :: (ef12, eo12) :: ob) → Rs w' 1 (E ++ [253952]).length ev12 (cst (E ++ [253952])) := fun hd => hd.ow.sv (i := 7) (f := ef12) (o := eo12) rfl hsw12 (by decide) (by rw [cst_length]; omega)
   have hnil : ∀ {w' : AW}, RsB w' .nilslice [] := fun {w'} => .inl ⟨rfl, rfl, rfl⟩
   refine s16f (body := []) hh h112 hbv12 hnil (fun w' f' => hnil) (fun w' _ _ _ _ hx => hnil) (by decide) (by omega) (by rw [hCY]; decide) fun w116 h116 x116 => ⟨_, _, rfl, ?_⟩
   refine zeros h116 (by omega) fun b121 w122 h122 x122 hr122 => ?_
   refine s16l (n := N4) hh h122 (by have := hr122.len'; rwa [List.length_replicate] at this) (by omega) fun w124 h124 x124 => ⟨_, _, rfl, ?_⟩
   obtain ⟨z1, z2, z3⟩ := none_read hF112
   refine s11 hh h124 (by rw [z1]; exact Nat.zero_le _) (by omega) (fun hne => absurd (by rw [z2]) hne) (fun _ S3 bv13 ev13 ef13 eo13 i128 w128 h128 x128 hbv13 hsv13 => ⟨_, _, rfl, ?_⟩)
   rw [z2] at h128
   refine s17 hh h128 fun i132 w132 h132 x132 => ?_
   rw [z3] at h132 x132 ⊢
   refine ⟨_, rfl, s27 hh h132 ?_⟩
   intro i135 w135 h135 x135
   obtain ⟨h136, x136, _⟩ := h135.drop
   obtain ⟨h137, x137⟩ := h136.forget
   have e27 : (if (0 : Int) < 0 then (d112, (2 : Int)) else ({ d112 with arm := wi (imin 0 4611686018427387904) + 1 }, 0)) = ({ d112 with arm := 1 }, 0) := by rw [if_neg (by decide)]; rfl
   obtain ⟨d139, hy139⟩ := sync_down hF112
   refine ⟨_, rfl, ?_⟩
   have h137 : Dk T1 [] w w135 D i135 ({ d112 with arm := 1 } : Dsk) _ ((S2, .row (segC D [115] bv12 ev12 false)) :: (ef12, eo12) :: (S1, .row (segC D [115] bv3 ev3 false)) :: (ef3, eo3) :: []) := h137
   refine s17 hh h137 fun i138 w138 h138 x138 => ?_
   rw [hy139] at h138 x138 ⊢
   have h138 : Dk T1 [] w w138 D i138 d139 _ ((S2, .row (segC D [115] bv12 ev12 true)) :: (ef12, eo12) :: (S1, .row (segC D [115] bv3 ev3 false)) :: (ef3, eo3) :: []) := h138
   refine ⟨_, rfl, s16b hh h138 fun w141 h141 x141 => ⟨_, _, rfl, ?_⟩⟩
   refine gd_t rfl (gd_t rfl (gd_t rfl (gd_t rfl (gd_t rfl (s13 (E := E ++ [253952]) hh (h141.ow.ld 6 rfl rfl) (hev12 h141) (by simp; omega) ⟨_, rfl, ?_⟩)))))
   have e146 : ((sizeE (E ++ [253952]) : Nat) : Int) = ((N5 : Nat) : Int) := by rw [hN5]; unfold sizeE; simp
   refine gd_t (by rw [e146]; simp) (gd_t rfl (gd_t rfl (gd_t rfl (gd_t rfl ?_))))
   refine s24 (D := D) (br := true) hh (h141.ow.ld 6 rfl rfl) (h141.ow.ld 6 rfl rfl) ⟨_, rfl, gd_t rfl (gd_t rfl ?_)⟩
   refine s22e (E := E ++ [253952]) (br := true) hh (h141.ow.ld 6 rfl rfl) (h141.ow.ld 6 rfl rfl) (h141.ow.ld 6 rfl rfl) (hev12 h141) (.inl rfl) ⟨_, rfl, gd_t rfl ?_⟩
   refine s28 hh h141.ow.P0 fun w154 => ⟨_, rfl, gd_t rfl ?_⟩
   exact Cl_hook (hh.awake _) ⟨_, rfl, rfl⟩
 ·intro J hJ
  have e78 : (d67.read [115]).2 = 0 := by rw [hF67.read]
  rw [e78]
  obtain ⟨d84, hy84, hF84, hst84⟩ := hF67.sync
  refine ⟨_, hln77, ifT_t (ifT_t (ifT_t (s17 hh h76 fun i84 w84 h84 x84 => ?_)))⟩
  rw [hy84] at h84 x84 ⊢
  have h84 : Dk T1 [] w w84 D i84 d84 _ ((S2, .row (segC D [115] bv5 ev5 false)) :: (ef5, eo5) :: (S1, .row (segC D [115] bv3 ev3 false)) :: (ef3, eo3) :: []) := h84
  refine ⟨_, rfl, hJ _ _ ⟨rfl, i84, d84, _, [], ?_, h84, hF84, ⟨rfl, fun i h => by simp at h⟩, (hbv5.x x76).x x84⟩⟩
  decide
end
end Go.Proofs.Ytdlogcincelccaa
