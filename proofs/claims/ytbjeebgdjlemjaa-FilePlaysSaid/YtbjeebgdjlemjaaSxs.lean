/-
 The disk of chapter 7: what lies beside it,and what is kept.
 No condition beyond those that each theorem names.
-/
import Derived.Test.YtbjeebgdjlemjaaSxy
set_option linter.unusedVariables false
set_option linter.unusedSimpArgs false
/-! A law's disk, and what lies beside it. -/
namespace Go.Sx
end Go.Sx
/-! A disk without faults, purely: files put and synced. -/
namespace Go.Sx
theorem nget_new {ns : List (Byts × Int)} {a : Byts} {f : Int} (h : nget ns a = Option.none) : nget (ns ++ [(a,f)]) a = some f := by
 unfold nget at h ⊢
 rw [List.find?_append]
 cases hf : ns.find? fun x => decide (x.1 = a) with
 | some x => rw [hf] at h; cases h
 | none => simp
end Go.Sx
/-! A file that was synced stays, whatever else is done. -/
namespace Go.Sx
theorem nget_nset_self {s : Byts} {f : Int} : ∀ {ns : List (Byts × Int)}, nget (nset ns s f) s = some f
  | [] => by simp [nset, nget]
  | x :: r => by
    have ih := nget_nset_self (s := s) (f := f) (ns := r)
    simp only [nset]
    split
    · simp [nget]
    · rename_i h
      unfold nget at ih ⊢
      rw [List.find?_cons, decide_eq_false h]; exact ih
theorem nget_nset_ne {s t : Byts} {f : Int} (h : t ≠ s) : ∀ {ns : List (Byts × Int)}, nget (nset ns s f) t = nget ns t
  | [] => by
    have : ¬ s = t := fun e => h e.symm
    simp [nset, nget, this]
  | x :: r => by
    have ih := nget_nset_ne (s := s) (t := t) (f := f) h (ns := r)
    have hst : ¬ s = t := fun e => h e.symm
    simp only [nset]
    split
    · rename_i e
      unfold nget
      rw [List.find?_cons, List.find?_cons, decide_eq_false hst, decide_eq_false (fun e' => hst (e ▸ e'))]
    · unfold nget at ih ⊢
      rw [List.find?_cons, List.find?_cons]
      by_cases hx : x.1 = t
      · simp [hx]
      · simp only [decide_eq_false hx]; exact ih
theorem nget_ndel_ne {s t : Byts} (h : t ≠ s) : ∀ {ns : List (Byts × Int)}, nget (ndel ns s) t = nget ns t
  | [] => rfl
  | x :: r => by
    have ih := nget_ndel_ne (s := s) (t := t) h (ns := r)
    have hst : ¬ s = t := fun e => h e.symm
    simp only [ndel]
    split
    · rename_i e
      unfold nget
      rw [List.find?_cons, decide_eq_false (fun e' => hst (e ▸ e'))]
    · unfold nget at ih ⊢
      rw [List.find?_cons, List.find?_cons]
      by_cases hx : x.1 = t
      · simp [hx]
      · simp only [decide_eq_false hx]; exact ih
theorem nset_mem {s : Byts} {f : Int} : ∀ {ns : List (Byts × Int)}, ∀ u ∈ nset ns s f, u = (s, f) ∨ u ∈ ns
  | [], u, h => by simp [nset] at h; exact .inl h
  | x :: r, u, h => by
    simp only [nset] at h
    split at h
    · rcases List.mem_cons.1 h with rfl | h
      · exact .inl rfl
      · exact .inr (List.mem_cons_of_mem _ h)
    · rcases List.mem_cons.1 h with rfl | h
      · exact .inr List.mem_cons_self
      · rcases nset_mem u h with h | h
        · exact .inl h
        · exact .inr (List.mem_cons_of_mem _ h)
theorem nget_mem {ns : List (Byts × Int)} {s : Byts} {f : Int} (h : nget ns s = some f) : (s,f) ∈ ns := by
 unfold nget at h
 obtain ⟨u,hu,rfl⟩ := Option.map_eq_some_iff.1 h
 have h1 := List.mem_of_find?_eq_some hu
 have h2 := List.find?_some hu
 simp at h2
 rw [← h2]; exact h1
theorem ndel_sub {s : Byts} : ∀ {ns : List (Byts × Int)}, ∀ u ∈ ndel ns s, u ∈ ns
  | [], u, h => by cases h
  | x :: r, u, h => by
    simp only [ndel] at h
    split at h
    · exact List.mem_cons_of_mem _ h
    · rcases List.mem_cons.1 h with rfl | h
      · exact List.mem_cons_self
      · exact List.mem_cons_of_mem _ (ndel_sub u h)
end Go.Sx
/-! A file is put, then synced. -/
namespace Go.Sx
end Go.Sx
/-! Steps that are settled out of turn: what stands stays what the steps make of what is safe. -/
namespace Go.Sx
theorem nget_nset {s t : Byts} {f : Int} {ns : List (Byts × Int)} : nget (nset ns s f) t = if t = s then some f else nget ns t := by
 by_cases h : t = s
 ·subst h; rw [if_pos rfl]; exact nget_nset_self
 ·rw [if_neg h]; exact nget_nset_ne h
def keysN (ns : List (Byts × Int)) : Prop := (ns.map (·.1)).Nodup
theorem keysN_nset {s : Byts} {f : Int} : ∀ {ns : List (Byts × Int)}, keysN ns → keysN (nset ns s f)
  | [], _ => by simp [nset, keysN]
  | x :: r, h => by
    obtain ⟨h1, h2⟩ := List.nodup_cons.1 (show (x.1 :: r.map (·.1)).Nodup from h)
    simp only [nset]
    split
    · rename_i e
      show (s :: r.map (·.1)).Nodup
      rw [← e]; exact h
    · rename_i hne
      show (x.1 :: (nset r s f).map (·.1)).Nodup
      refine List.nodup_cons.2 ⟨fun hm => ?_, keysN_nset h2⟩
      obtain ⟨u, hu, e⟩ := List.mem_map.1 hm
      rcases nset_mem u hu with rfl | hu
      · exact hne e.symm
      · exact h1 (e ▸ List.mem_map_of_mem hu)
theorem keysN_ndel {s : Byts} : ∀ {ns : List (Byts × Int)}, keysN ns → keysN (ndel ns s)
  | [], h => h
  | x :: r, h => by
    obtain ⟨h1, h2⟩ := List.nodup_cons.1 (show (x.1 :: r.map (·.1)).Nodup from h)
    simp only [ndel]
    split
    · exact h2
    · show (x.1 :: (ndel r s).map (·.1)).Nodup
      refine List.nodup_cons.2 ⟨fun hm => ?_, keysN_ndel h2⟩
      obtain ⟨u, hu, e⟩ := List.mem_map.1 hm
      exact h1 (e ▸ List.mem_map_of_mem (ndel_sub u hu))
theorem nget_none_of {s : Byts} {ns : List (Byts × Int)} (h : s ∉ ns.map (·.1)) : nget ns s = Option.none := by
 cases hg : nget ns s with
 | none => rfl
 | some f => exact absurd (List.mem_map.2 ⟨_,nget_mem hg,rfl⟩) h
theorem nget_ndel {s t : Byts} {ns : List (Byts × Int)} (hk : keysN ns) : nget (ndel ns s) t = if t = s then Option.none else nget ns t := by
  by_cases h : t = s
  · subst h
    rw [if_pos rfl]
    apply nget_none_of
    induction ns with
    | nil => simp [ndel]
    | cons x r ih =>
      obtain ⟨h1, h2⟩ := List.nodup_cons.1 (show (x.1 :: r.map (·.1)).Nodup from hk)
      simp only [ndel]
      split
      · rename_i e; rw [← e]; exact h1
      · rename_i hne
        intro hm
        rcases List.mem_cons.1 (show t ∈ x.1 :: (ndel r t).map (·.1) from hm) with e | hm
        · exact hne e.symm
        · exact ih h2 hm
  · rw [if_neg h]; exact nget_ndel_ne h
structure FF where
 N : Byts → Option Int
 F : Int → List Byts
def FS.ff (s : FS) : FF := ⟨nget s.names,s.files⟩
def FF.does (s : FF) (x : Stp) : FF :=
 if x.what = 0 then ⟨fun t => if t = x.name then some x.file else s.N t,s.F⟩
 else if x.what = 1 then ⟨s.N,updF s.F x.file (putS (s.F x.file) x.n.toNat x.data)⟩
 else if x.what = 2 then ⟨s.N,updF s.F x.file ((s.F x.file).take x.n.toNat)⟩
 else if s.N x.name = some x.file then
  (if x.what = 3 then ⟨fun t => if t = x.to then some x.file else if t = x.name then Option.none else s.N t,s.F⟩ else ⟨fun t => if t = x.name then Option.none else s.N t,s.F⟩)
 else s
theorem does_keysN {s : FS} (h : keysN s.names) (x : Stp) : keysN (s.does x).names := by
 unfold FS.does
 split
 ·exact keysN_nset h
 ·split
  ·exact h
  ·split
   ·exact h
   ·split
    ·split
     ·split
      ·exact keysN_nset (keysN_ndel h)
      ·exact keysN_ndel h
     ·exact h
    ·exact h
theorem ff_does {s : FS} (h : keysN s.names) (x : Stp) : (s.does x).ff = s.ff.does x := by
  unfold FS.does FF.does FS.ff
  simp only []
  split
  · congr 1; funext t; exact nget_nset
  · split
    · rfl
    · split
      · rfl
      · cases hg : nget s.names x.name with
        | none => simp
        | some f =>
          simp only [Option.some.injEq]
          by_cases hf : f = x.file
          · simp only [if_pos hf]
            split
            · congr 1; funext t
              rw [nget_nset, nget_ndel h]
            · congr 1; funext t
              rw [nget_ndel h]
          · simp only [if_neg hf]
theorem ff_foldl : ∀ {l : List Stp} {s : FS}, keysN s.names → (l.foldl FS.does s).ff = l.foldl FF.does s.ff ∧ keysN (l.foldl FS.does s).names
  | [], s, h => ⟨rfl, h⟩
  | a :: l, s, h => by
    obtain ⟨h1, h2⟩ := ff_foldl (l := l) (does_keysN h a)
    exact ⟨by rw [List.foldl_cons, h1, ff_does h]; rfl, h2⟩
def fileStp (x : Stp) : Prop := x.what = 1 ∨ x.what = 2
def Comm (x y : Stp) : Prop := (fileStp x ∧ ¬ fileStp y) ∨ (¬ fileStp x ∧ fileStp y) ∨ (fileStp x ∧ fileStp y ∧ x.file ≠ y.file)
theorem does_file {x : Stp} (h : fileStp x) (s : FF) : (s.does x).N = s.N ∧ (∀ k,k ≠ x.file → (s.does x).F k = s.F k) ∧ ∀ s' : FF,s'.F x.file = s.F x.file → (s'.does x).F x.file = (s.does x).F x.file := by
 unfold FF.does
 rcases h with h | h
 ·simp only [h,show ¬ ((1 : Int) = 0) by decide,if_false,if_true,true_and]
  exact ⟨fun k hk => by simp [updF,hk],fun s' e => by simp [updF,e]⟩
 ·simp only [h,show ¬ ((2 : Int) = 0) by decide,show ¬ ((2 : Int) = 1) by decide,if_false,if_true,true_and]
  exact ⟨fun k hk => by simp [updF,hk],fun s' e => by simp [updF,e]⟩
theorem does_name {x : Stp} (h : ¬ fileStp x) (s : FF) : (s.does x).F = s.F ∧ ∀ s' : FF,s'.N = s.N → (s'.does x).N = (s.does x).N := by
 unfold fileStp at h
 simp only [not_or] at h
 unfold FF.does
 by_cases h0 : x.what = 0
 ·simp only [h0,if_true]; exact ⟨trivial,fun s' e => by rw [e]⟩
 ·simp only [h0,h.1,h.2,if_false]
  refine ⟨?_,fun s' e => ?_⟩
  ·split
   ·split <;> rfl
   ·rfl
  ·rw [e]
   split
   ·split <;> rfl
   ·exact e
theorem FF.ext' {s t : FF} (h1 : s.N = t.N) (h2 : ∀ k,s.F k = t.F k) : s = t := by
 obtain ⟨a,b⟩ := s
 obtain ⟨c,d⟩ := t
 simp only at h1 h2
 rw [h1,show b = d from funext h2]
theorem comm_names {x y : Stp} (hx : fileStp x) (hy : ¬ fileStp y) (s : FF) : (s.does x).does y = (s.does y).does x := by
 obtain ⟨a1,a2,a3⟩ := does_file hx s
 obtain ⟨b1,b2⟩ := does_name hy s
 obtain ⟨c1,c2,c3⟩ := does_file hx (s.does y)
 obtain ⟨d1,d2⟩ := does_name hy (s.does x)
 refine FF.ext' ?_ fun k => ?_
 ·rw [c1]; exact b2 _ a1
 ·rw [d1]
  by_cases hk : k = x.file
  ·subst hk; exact (a3 _ (by rw [b1])).symm
  ·rw [a2 k hk,c2 k hk,b1]
theorem comm_does {x y : Stp} (h : Comm x y) (s : FF) : (s.does x).does y = (s.does y).does x := by
 rcases h with ⟨h1,h2⟩ | ⟨h1,h2⟩ | ⟨h1,h2,h3⟩
 ·exact comm_names h1 h2 s
 ·exact (comm_names h2 h1 s).symm
 ·obtain ⟨a1,a2,a3⟩ := does_file h1 s
  obtain ⟨b1,b2,b3⟩ := does_file h2 s
  obtain ⟨c1,c2,c3⟩ := does_file h1 (s.does y)
  obtain ⟨d1,d2,d3⟩ := does_file h2 (s.does x)
  refine FF.ext' (by rw [d1,a1,c1,b1]) fun k => ?_
  by_cases hx : k = x.file
  ·subst hx
   rw [d2 _ h3]
   exact (a3 _ (b2 _ h3)).symm
  ·rw [c2 k hx]
   by_cases hy : k = y.file
   ·subst hy; exact b3 _ (a2 _ hx)
   ·rw [d2 k hy,a2 k hx,b2 k hy]
theorem foldl_past {a : Stp} : ∀ {S : List Stp} {s : FF}, (∀ y ∈ S, Comm a y) → S.foldl FF.does (s.does a) = (S.foldl FF.does s).does a
  | [], s, _ => rfl
  | y :: S, s, h => by
    rw [List.foldl_cons, List.foldl_cons, comm_does (h y List.mem_cons_self)]
    exact foldl_past fun z hz => h z (List.mem_cons_of_mem _ hz)
def sett (so : Nat → Stp → Bool) : Nat → List Stp → List Stp
 | _,[] => []
 | i,x :: r => if so i x then x :: sett so (i + 1) r else sett so (i + 1) r
theorem settleL_fst {so : Nat → Stp → Bool} : ∀ {l : List Stp} {i : Nat} {s : FS}, (settleL so i l s).1 = (sett so i l).foldl FS.does s
  | [], i, s => rfl
  | a :: l, i, s => by
    simp only [settleL, sett]
    split
    · rw [settleL_fst]; rfl
    · exact settleL_fst
def Turn (so : Nat → Stp → Bool) : Nat → List Stp → Prop
 | _,[] => True
 | i,x :: r => (so i x = false → ∀ y ∈ sett so (i + 1) r,Comm x y) ∧ Turn so (i + 1) r
theorem settle_ff {so : Nat → Stp → Bool} : ∀ {l : List Stp} {i : Nat} {s : FS}, keysN s.names → Turn so i l → (settleL so i l s).2.foldl FF.does (settleL so i l s).1.ff = l.foldl FF.does s.ff
  | [], i, s, _, _ => rfl
  | a :: l, i, s, hk, ht => by
    simp only [settleL]
    cases hs : so i a with
    | true =>
      simp only [if_true]
      rw [settle_ff (l := l) (does_keysN hk a) ht.2, ff_does hk]
      rfl
    | false =>
      simp only [Bool.false_eq_true, if_false, List.foldl_cons]
      have hI := settle_ff (l := l) (i := i + 1) (s := s.does a) (does_keysN hk a) ht.2
      rw [ff_does hk] at hI
      have h1 : (settleL so (i + 1) l s).1.ff.does a = (settleL so (i + 1) l (s.does a)).1.ff := by
        rw [settleL_fst, settleL_fst, (ff_foldl hk).1, (ff_foldl (does_keysN hk a)).1, ff_does hk]
        exact (foldl_past (ht.1 hs)).symm
      have h2 : (settleL so (i + 1) l s).2 = (settleL so (i + 1) l (s.does a)).2 := by
        have : ∀ {l : List Stp} {i : Nat} {s t : FS}, (settleL so i l s).2 = (settleL so i l t).2 := by
          intro l
          induction l with
          | nil => intro i s t; rfl
          | cons b l ih =>
            intro i s t
            simp only [settleL]
            split
            · exact ih
            · simp only [List.cons.injEq, true_and]; exact ih
        exact this
      rw [← hI, h1, h2]
end Go.Sx
/-! What stands is what the steps make of what is safe. -/
namespace Go.Sx
theorem turn_of {so : Nat → Stp → Bool} (h : ∀ i j x y, i < j → so i x = false → so j y = true → Comm x y) : ∀ {l : List Stp} {i : Nat}, Turn so i l
  | [], _ => trivial
  | a :: l, i => by
    refine ⟨fun hs y hy => ?_, turn_of h⟩
    have : ∀ {l : List Stp} {k : Nat}, i < k → ∀ y ∈ sett so k l, ∃ j, i < j ∧ so j y = true := by
      intro l
      induction l with
      | nil => intro k _ y hy; cases hy
      | cons b l ih =>
        intro k hk y hy
        simp only [sett] at hy
        split at hy
        · rename_i hb
          rcases List.mem_cons.1 hy with rfl | hy
          · exact ⟨k, hk, hb⟩
          · exact ih (by omega) y hy
        · exact ih (by omega) y hy
    obtain ⟨j, hj, hy'⟩ := this (Nat.lt_succ_self i) y hy
    exact h i j a y hj hs hy'
theorem mem_keys {ns : List (Byts × Int)} (s : Byts) : s ∈ ns.map (·.1) ↔ (nget ns s).isSome = true := by
  constructor
  · intro h
    cases hg : nget ns s with
    | some f => rfl
    | none =>
      obtain ⟨u, hu, e⟩ := List.mem_map.1 h
      unfold nget at hg
      rw [Option.map_eq_none_iff, List.find?_eq_none] at hg
      exact absurd (decide_eq_true e) (hg u hu)
  · intro h
    cases hg : nget ns s with
    | some f => exact List.mem_map.2 ⟨_, nget_mem hg, rfl⟩
    | none => rw [hg] at h; cases h
theorem keys_perm {a b : List (Byts × Int)} (ha : keysN a) (hb : keysN b) (h : nget a = nget b) : (a.map (·.1)).Perm (b.map (·.1)) :=
 (List.perm_ext_iff_of_nodup ha hb).2 fun s => by rw [mem_keys,mem_keys,h]
end Go.Sx
/-! Behind a sync of all files and names. -/
namespace Go.Sx
end Go.Sx
