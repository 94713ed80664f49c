/- Plain mathematics: what is Zck comes in the order of words. -/
import Derived.Test.YteooegmokbbeoaaGauHd
import Derived.Test.YteooegmokbbeoaaGauGa
import Derived.Test.YteooegmokbbeoaaGauIa
set_option linter.unusedVariables false
set_option linter.unusedSimpArgs false
namespace Go.AM
theorem Zlp : ∀ a : List Int, lexI a a = 0
  | [] => rfl
  | x :: a => by simp [lexI, Zlp a]
theorem Zmb : ∀ a b c : List Int, a.length = b.length → b.length = c.length → lexI a b < 0 → lexI b c < 0 → lexI a c < 0
  | [], _, _, h1, h2, h3, h4 => by
    cases h : (‹List Int› : List Int) <;> simp_all [lexI]
  | x :: a, y :: b, z :: c, h1, h2, h3, h4 => by
    have ih := Zmb a b c (by simpa using h1) (by simpa using h2)
    simp only [lexI] at *
    grind
  | x :: a, [], _, h1, h2, h3, h4 => by simp at h1
  | x :: a, y :: b, [], h1, h2, h3, h4 => by simp at h2
theorem Zmy : ∀ a b : List Int, a.length = b.length → lexI a b < 0 ∨ a = b ∨ lexI b a < 0
  | [], [], _ => .inr (.inl rfl)
  | x :: a, y :: b, h => by
    have ih := Zmy a b (by simpa using h)
    simp only [lexI]
    grind
  | [], y :: b, h => by simp at h
  | x :: a, [], h => by simp at h
theorem Znd : ∀ u c x y : List Int, u.length = c.length → lexI (u ++ x) (c ++ y) = if lexI u c = 0 then lexI x y else lexI u c
  | [], [], x, y, h => by simp [lexI]
  | a :: u, b :: c, x, y, h => by
    have ih := Znd u c x y (by simpa using h)
    simp only [List.cons_append, lexI, ih]
    grind
  | [], b :: c, x, y, h => by simp at h
  | a :: u, [], x, y, h => by simp at h
theorem Zem (a b : Word) : ltW a b = true ↔ a.length < b.length ∨ (a.length = b.length ∧ lexI a b < 0) := by
  unfold ltW cmpI
  rw [decide_eq_true_eq]
  split
  · rename_i h; simp [h]
  · split
    · rename_i h1 h2
      constructor
      · intro h; omega
      · rintro (h | h) <;> omega
    · rename_i h1 h2
      constructor
      · intro h; exact .inr ⟨by omega, h⟩
      · rintro (h | h)
        · omega
        · exact h.2
theorem Zis {a b c : Word} (h1 : ltW a b = true) (h2 : ltW b c = true) : ltW a c = true := by
  rw [Zem] at *
  rcases h1 with h1 | ⟨h1, h1'⟩ <;> rcases h2 with h2 | ⟨h2, h2'⟩
  · exact .inl (by omega)
  · exact .inl (by omega)
  · exact .inl (by omega)
  · exact .inr ⟨by omega, Zmb a b c h1 h2 h1' h2'⟩
theorem Zmf (a : Word) : ltW a a = false := by
  cases h : ltW a a with
  | false => rfl
  | true => rw [Zem] at h; rw [Zlp] at h; omega
theorem Zzd (a b : Word) : ltW a b = true ∨ a = b ∨ ltW b a = true := by
  rw [Zem, Zem]
  rcases Nat.lt_trichotomy a.length b.length with h | h | h
  · exact .inl (.inl h)
  · rcases Zmy a b h with q | q | q
    · exact .inl (.inr ⟨h, q⟩)
    · exact .inr (.inl q)
    · exact .inr (.inr (.inr ⟨h.symm, q⟩))
  · exact .inr (.inr (.inl h))
theorem Zsc {u c : Word} {i j : Int} (hl : u.length = c.length) (h : ltW u c = true) : ltW (u ++ [i]) (c ++ [j]) = true := by
  rw [Zem] at *
  rcases h with h | ⟨_, h⟩
  · omega
  · refine .inr ⟨by simp [hl], ?_⟩
    rw [Znd u c _ _ hl, if_neg (by omega)]; exact h
theorem Zzr (c : Word) {i j : Int} (h : i < j) : ltW (c ++ [i]) (c ++ [j]) = true := by
  rw [Zem]
  refine .inr ⟨by simp, ?_⟩
  rw [Znd c c _ _ rfl, Zlp, if_pos rfl]
  simp [lexI, h]
section
variable {ins outs : Nat} {rows : List (List (Int × Int))} {fr : Int}
theorem Zzt (c : Word) : (exts ins c).Pairwise fun a b => ltW a b = true := by
  unfold exts
  rw [List.pairwise_map]
  exact List.Pairwise.imp (fun h => Zzr c (by omega)) List.pairwise_lt_range
/-- What was visited, and what will be tried, in the order of words. -/
def FO (vis : List (Nat × Word)) (cs : List Word) : Prop := (vis.map (·.2) ++ cs).Pairwise fun a b => ltW a b = true
theorem Zvt {vis : List (Nat × Word)} {s : Nat} {w : Word} (h : lk vis s = some w) : w ∈ vis.map (·.2) := by
  obtain ⟨ys, zs, rfl⟩ := Zif h
  simp
theorem FO.visit {c : Word} {cs : List Word} {vis : List (Nat × Word)} {t : Nat} (hI : FInv rows ins fr (c :: cs) vis) (h : FO vis (c :: cs)) : FO (vis ++ [(t, c)]) (cs ++ exts ins c) := by
  unfold FO at *
  have e : (vis ++ [(t, c)]).map (·.2) ++ (cs ++ exts ins c) = (vis.map (·.2) ++ c :: cs) ++ exts ins c := by simp
  rw [e, List.pairwise_append]
  refine ⟨h, Zzt c, ?_⟩
  intro a ha b hb
  obtain ⟨i, hi, rfl⟩ := Zkg.mp hb
  obtain ⟨h1, h2, h3⟩ := List.pairwise_append.mp h
  have hcs := (List.pairwise_cons.mp h2).1
  rcases List.mem_append.mp ha with ha | ha
  · have := h3 a ha c List.mem_cons_self
    rw [Zem] at this ⊢
    refine .inl ?_
    simp; omega
  · rcases List.mem_cons.mp ha with rfl | ha
    · rw [Zem]; exact .inl (by simp)
    · have h4 := hI.two c List.mem_cons_self a (List.mem_cons_of_mem _ ha)
      by_cases hl : a.length < c.length + 1
      · rw [Zem]; exact .inl (by simp; omega)
      · rcases (hI.cand a (List.mem_cons_of_mem _ ha)).1 with rfl | ⟨u, j, fs, rfl, _, _, _, _, h6⟩
        · simp at hl
        · have hu := h3 u (Zvt h6) c List.mem_cons_self
          exact Zsc (by simp at h4 hl; omega) hu
theorem Fifo.ord {cs : List Word} {vis r : List (Nat × Word)} (hm : OKM ins outs rows) (hfr : St1 rows fr) (h : Fifo rows ins fr cs vis r) : FInv rows ins fr cs vis → FO vis cs → FO r [] := by
  induction h with
  | nil vis => exact fun _ h => h
  | skip h hr ih =>
    intro hi ho
    refine ih (hi.skip h) ?_
    unfold FO at *
    obtain ⟨h1, h2, h3⟩ := List.pairwise_append.mp ho
    exact List.pairwise_append.mpr ⟨h1, (List.pairwise_cons.mp h2).2, fun a ha b hb => h3 a ha b (List.mem_cons_of_mem _ hb)⟩
  | visit h hr ih => exact fun hi ho => ih (hi.visit hm hfr h) (FO.visit hi ho)
theorem Fifo.sorted {r : List (Nat × Word)} (hm : OKM ins outs rows) (hfr : St1 rows fr) (h : Fifo rows ins fr [[]] [] r) : (r.map (·.2)).Pairwise fun a b => ltW a b = true := by
  have := Fifo.ord hm hfr h (FInv.start hm fr) (by simp [FO])
  simpa [FO] using this
/-- Words tried in a row come to one end. -/
theorem Fifo.det {cs : List Word} {vis r r' : List (Nat × Word)} (h : Fifo rows ins fr cs vis r) : Fifo rows ins fr cs vis r' → r = r' := by
  induction h generalizing r' with
  | nil vis => intro h; cases h; rfl
  | skip h hr ih =>
    intro h'
    cases h' with
    | skip h2 hr2 => exact ih hr2
    | visit h2 hr2 => exact absurd h h2
  | visit h hr ih =>
    intro h'
    cases h' with
    | skip h2 hr2 => exact absurd h2 h
    | visit h2 hr2 => exact ih hr2
theorem Zdb {r : List (Nat × Word)} (hd : (r.map (·.1)).Nodup) {x : Nat × Word} (hx : x ∈ r) : lk r x.1 = some x.2 := by
  induction r with
  | nil => cases hx
  | cons y r ih =>
    obtain ⟨s, w⟩ := y
    simp only [List.map_cons, List.nodup_cons] at hd
    rcases List.mem_cons.mp hx with rfl | hx
    · simp [lk]
    · have : s ≠ x.1 := fun e => hd.1 (by rw [e]; exact List.mem_map_of_mem hx)
      simp only [lk, if_neg this]
      exact ih hd.2 hx
theorem Zkr {r : List (Nat × Word)} (hinj : ∀ s t w, lk r s = some w → lk r t = some w → s = t) : ∀ n, (ordN r n).Pairwise fun x y => ltW (wd r x) (wd r y) = true
  | 0 => List.Pairwise.nil
  | s + 1 => by
    have ih := Zkr hinj s
    unfold ordN
    split
    · rename_i hs
      obtain ⟨w, hw⟩ := Option.isSome_iff_exists.mp hs
      have hws : wd r s = w := by unfold wd; simp [hw]
      unfold insO
      rw [hws]
      have hal : ∀ n, ∀ x ∈ ordN r n, ∃ (t : Nat) (v : Word), x = t ∧ t < n ∧ lk r t = some v := by
        intro n
        induction n with
        | zero => intro x hx; cases hx
        | succ m ihm =>
          intro x hx
          unfold ordN at hx
          split at hx
          · rename_i h
            rcases Zsj.mp hx with rfl | hx
            · obtain ⟨v, hv⟩ := Option.isSome_iff_exists.mp h
              exact ⟨m, v, rfl, by omega, hv⟩
            · obtain ⟨t, v, h1, h2, h3⟩ := ihm x hx; exact ⟨t, v, h1, by omega, h3⟩
          · obtain ⟨t, v, h1, h2, h3⟩ := ihm x hx; exact ⟨t, v, h1, by omega, h3⟩
      have hne : ∀ x ∈ ordN r s, wd r x ≠ w := by
        intro x hx e
        obtain ⟨t, v, rfl, ht, hv⟩ := hal s x hx
        have : wd r (t : Int) = v := by unfold wd; simp [hv]
        rw [this] at e; subst e
        have := hinj t s v hv hw
        omega
      have hsp := List.takeWhile_append_dropWhile (p := fun x => ltW (wd r x) w) (l := ordN r s)
      generalize hL : ordN r s = L at *
      have htk : ∀ x ∈ L.takeWhile (fun x => ltW (wd r x) w), ltW (wd r x) w = true := fun x hx => by
        have := List.all_takeWhile (p := fun x => ltW (wd r x) w) (l := L)
        exact List.all_eq_true.mp this x hx
      rw [← hsp] at ih
      obtain ⟨h1, h2, h3⟩ := List.pairwise_append.mp ih
      have hdr : ∀ x ∈ L.dropWhile (fun x => ltW (wd r x) w), ltW w (wd r x) = true := by
        intro x hx
        cases hD : L.dropWhile (fun x => ltW (wd r x) w) with
        | nil => rw [hD] at hx; cases hx
        | cons d D =>
          have hdn : ltW (wd r d) w = false := by
            have := List.head?_dropWhile_not (fun x => ltW (wd r x) w) L
            rw [hD] at this
            simpa using this
          have hdm : d ∈ L := by rw [← hsp, hD]; simp
          have hwd : ltW w (wd r d) = true := by
            rcases Zzd (wd r d) w with q | q | q
            · rw [hdn] at q; cases q
            · exact absurd q (hne d hdm)
            · exact q
          rw [hD] at hx h2
          rcases List.mem_cons.mp hx with rfl | hx
          · exact hwd
          · exact Zis hwd ((List.pairwise_cons.mp h2).1 x hx)
      rw [List.pairwise_append]
      refine ⟨h1, List.pairwise_cons.mpr ⟨fun x hx => by rw [hws]; exact hdr x hx, h2⟩, ?_⟩
      intro a ha b hb
      rcases List.mem_cons.mp hb with rfl | hb
      · rw [hws]; exact htk a ha
      · exact h3 a ha b hb
    · exact ih
theorem Zpt (r : List (Nat × Word)) : ∀ n, (ordN r n).Perm (Zbd n r)
  | 0 => List.Perm.refl _
  | s + 1 => by
    have ih := Zpt r s
    rw [Zhy]
    unfold ordN
    split
    · unfold insO
      have hsp := List.takeWhile_append_dropWhile (p := fun x => ltW (wd r x) (wd r s)) (l := ordN r s)
      refine List.perm_middle.trans ?_
      rw [hsp]
      exact (List.Perm.cons _ ih).trans (List.perm_append_singleton _ _).symm
    · exact ih
/-- **The reference's order is that in which the program reaches them.** -/
theorem Zxd {r : List (Nat × Word)} (hm : OKM ins outs rows) (hfr : St1 rows fr) (hI : FInv rows ins fr [] r) (h : Fifo rows ins fr [[]] [] r) : ordN r rows.length = ordR r := by
  have hd := hI.good.nodup
  have hinj : ∀ s t w, lk r s = some w → lk r t = some w → s = t := by
    intro s t w h1 h2
    have e1 := (hI.at_ s w h1).1
    have e2 := (hI.at_ t w h2).1
    omega
  have hs := Zkr hinj rows.length
  have hr : (ordR r).Pairwise fun x y => ltW (wd r x) (wd r y) = true := by
    have h1 := h.sorted hm hfr
    unfold ordR
    rw [List.pairwise_map] at h1 ⊢
    refine List.Pairwise.imp_of_mem ?_ h1
    intro a b ha hb hab
    have ea : wd r (a.1 : Int) = a.2 := by unfold wd; simp [Zdb hd ha]
    have eb : wd r (b.1 : Int) = b.2 := by unfold wd; simp [Zdb hd hb]
    rw [ea, eb]; exact hab
  refine List.Perm.eq_of_pairwise ?_ hs hr ((Zpt r rows.length).trans (Zfu hI.good).symm)
  intro a b _ _ h1 h2
  have := Zis h1 h2
  rw [Zmf] at this; cases this
end
end Go.AM

set_option linter.unusedVariables false
set_option linter.unusedSimpArgs false
namespace Go.AM
theorem Ydd (l : List Int) (x : Int) : ∀ n, -1 ≤ posN l x n
  | 0 => by simp [posN]
  | n + 1 => by have := Ydd l x n; simp only [posN]; split <;> omega
theorem Zpq {l : List Int} {x : Int} : ∀ n, n ≤ l.length → x ∉ l → posN l x n = -1
  | 0, _, _ => rfl
  | n + 1, h, hx => by
    have : l.getD n 0 ≠ x := fun e => hx (by rw [← e]; exact Zci 0 (by omega))
    simp only [posN, if_neg this]
    exact Zpq n (by omega) hx
theorem Zga {l : List Int} {x : Int} (h : x ∉ l) : pos l x = -1 := Zpq _ (Nat.le_refl _) h
theorem Zts {l : List Int} (hd : l.Nodup) : ∀ n k, n ≤ l.length → k < n → posN l (l.getD k 0) n = k
  | 0, k, _, h => by omega
  | n + 1, k, h, hk => by
    simp only [posN]
    by_cases e : k = n
    · subst e; rw [if_pos rfl]
    · have : l.getD n 0 ≠ l.getD k 0 := by
        intro he
        have h1 : n < l.length := by omega
        have h2 : k < l.length := by omega
        simp only [List.getD_eq_getElem?_getD, List.getElem?_eq_getElem h1, List.getElem?_eq_getElem h2, Option.getD_some] at he
        have := (List.getElem_inj hd).mp he
        omega
      rw [if_neg this]
      exact Zts hd n k (by omega) (by omega)
theorem Zlr {l : List Int} (hd : l.Nodup) {k : Nat} (hk : k < l.length) : pos l (l.getD k 0) = k := Zts hd _ k (Nat.le_refl _) hk
theorem Zwu {l : List Int} {x : Int} (h : x ∈ l) : ∃ k, k < l.length ∧ l.getD k 0 = x := by
  obtain ⟨k, hk, rfl⟩ := List.getElem_of_mem h
  exact ⟨k, hk, by simp [List.getD_eq_getElem?_getD, hk]⟩
theorem Zex {l : List Int} (hd : l.Nodup) {x : Int} (h : x ∈ l) : ∃ k : Nat, pos l x = k ∧ k < l.length ∧ l.getD k 0 = x := by
  obtain ⟨k, hk, rfl⟩ := Zwu h
  exact ⟨k, Zlr hd hk, hk, rfl⟩
theorem Yfh {l : List Int} (hd : l.Nodup) {x y : Int} (hx : x ∈ l ∨ x = -1) (hy : y ∈ l ∨ y = -1) (hn : (-1 : Int) ∉ l) (h : pos l x = pos l y) : x = y := by
  have h1 := Zga hn
  rcases hx with hx | rfl <;> rcases hy with hy | rfl
  · obtain ⟨k, e1, _, e2⟩ := Zex hd hx
    obtain ⟨k', e3, _, e4⟩ := Zex hd hy
    rw [← e2, ← e4]; congr 1; omega
  · obtain ⟨k, e1, _, e2⟩ := Zex hd hx; omega
  · obtain ⟨k, e1, _, e2⟩ := Zex hd hy; omega
  · rfl
theorem Zsu {o : List Int} {f : Int → Int} {x : Int} (hf : ∀ y ∈ o, f y = f x → y = x) : ∀ n, n ≤ o.length → posN (o.map f) (f x) n = posN o x n
  | 0, _ => rfl
  | n + 1, h => by
    have h1 : n < o.length := by omega
    have e : (o.map f).getD n 0 = f (o.getD n 0) := by simp [List.getD_eq_getElem?_getD, h1]
    simp only [posN, e]
    rw [Zsu hf n (by omega)]
    by_cases q : o.getD n 0 = x
    · rw [if_pos q, if_pos (by rw [q])]
    · rw [if_neg q, if_neg (fun h => q (hf _ (Zci 0 h1) h))]
theorem Yep {o : List Int} {f : Int → Int} {x : Int} (hf : ∀ y ∈ o, f y = f x → y = x) : pos (o.map f) (f x) = pos o x := by
  unfold pos; rw [List.length_map]; exact Zsu hf _ (Nat.le_refl _)
theorem Zjg (k v x : Int) : ∀ m : List (Int × Int), Zgj (putM m k v) x = if x = k then some v else Zgj m x
  | [] => by simp [putM, Zgj]
  | (a, b) :: m => by
    have ih := Zjg k v x m
    simp only [putM]
    split
    · rename_i h; subst h; simp only [Zgj]; split <;> rfl
    · rename_i h
      simp only [Zgj, ih]
      by_cases h1 : x = a
      · subst h1; rw [if_pos rfl, if_neg (fun e => h e.symm), if_pos rfl]
      · rw [if_neg h1, if_neg h1]
theorem Zql (l : List Int) (x : Int) : ∀ j, Zgj (atM l j) x = if posN l x j = -1 then (if x = -1 then some (-1) else none) else some (posN l x j)
  | 0 => by simp [atM, Zgj, posN]
  | j + 1 => by
    have ih := Zql l x j
    by_cases h : l.getD j 0 = x
    · have e : posN l x (j + 1) = j := by simp only [posN, if_pos h]
      rw [e, if_neg (by omega)]
      simp only [atM, Zjg, if_pos h.symm]
    · have e : posN l x (j + 1) = posN l x j := by simp only [posN, if_neg h]
      rw [e, ← ih]
      have h' : ¬ x = l.getD j 0 := fun e => h e.symm
      simp only [atM, Zjg, if_neg h']
section
variable {ins outs : Nat} {rows : List (List (Int × Int))}
/-- Some states, the initial one first, that no edge leaves. -/
structure CL (rows : List (List (Int × Int))) (ins : Nat) (l : List Int) : Prop where
  nd : l.Nodup
  rng : ∀ x ∈ l, 0 ≤ x ∧ x < rows.length
  hd : l.head? = some 0
  clo : ∀ x ∈ l, ∀ i, i < ins → 0 ≤ (edg rows x.toNat i).1 → (edg rows x.toNat i).1 ∈ l
variable {l : List Int}
theorem CL.ne (h : CL rows ins l) : l ≠ [] := by intro e; have := h.hd; rw [e] at this; cases this
theorem CL.len (h : CL rows ins l) : 1 ≤ l.length := by
  cases l with
  | nil => exact absurd rfl h.ne
  | cons a t => simp
theorem CL.zero (h : CL rows ins l) : l.getD 0 0 = 0 := by
  have := h.hd
  cases l with
  | nil => cases this
  | cons a t => simpa using this
theorem CL.neg (h : CL rows ins l) : (-1 : Int) ∉ l := fun hx => by have := (h.rng _ hx).1; omega
theorem CL.pos0 (h : CL rows ins l) : pos l 0 = 0 := by
  have := Zlr h.nd (k := 0) (by have := h.len; omega)
  rw [h.zero] at this; exact this
theorem CL.edge (h : CL rows ins l) (hm : OKM ins outs rows) {x : Int} (hx : x ∈ l) {i : Nat} (hi : i < ins) : (edg rows x.toNat i).1 ∈ l ∨ (edg rows x.toNat i).1 = -1 := by
  have hr := h.rng x hx
  rcases hm.ok x.toNat (by omega) i hi with e | e
  · exact .inr (by rw [e])
  · exact .inl (h.clo x hx i hi e.1)
theorem Zcx : (Zbs rows ins l).length = l.length := by simp [Zbs]
theorem Zlq {k i : Nat} (hk : k < l.length) (hi : i < ins) : edg (Zbs rows ins l) k i = Zxf l (edg rows (l.getD k 0).toNat i) := by
  unfold edg Zbs Zee
  simp [List.getD_eq_getElem?_getD, hk, hi, edg]
theorem Zih {k : Nat} (hk : k < l.length) : ((Zbs rows ins l).getD k []).length = ins := by
  unfold Zbs Zee
  simp [List.getD_eq_getElem?_getD, hk]
theorem Zkl (hm : OKM ins outs rows) (h : CL rows ins l) : Znw rows l = Zbs rows ins l := by
  unfold Znw Zbs
  apply List.map_congr_left
  intro s hs
  have hr := h.rng s hs
  have hrow := hm.len s.toNat (by omega)
  unfold Zee
  apply List.ext_getElem
  · rw [List.length_map, List.length_map, hrow, List.length_range]
  · intro i h1 h2
    simp only [List.length_map, List.length_range] at h1 h2
    simp only [List.getElem_map, List.getElem_range]
    have he : (rows.getD s.toNat [])[i] = edg rows s.toNat i := by
      unfold edg; simp only [List.getD_eq_getElem?_getD (l := rows.getD s.toNat []), List.getElem?_eq_getElem h1]; rfl
    rw [he]
    unfold movM Zxf
    rw [Zql]
    have hp : posN l (edg rows s.toNat i).1 l.length = pos l (edg rows s.toNat i).1 := rfl
    rw [hp]
    rcases h.edge hm hs h2 with q | q
    · obtain ⟨k, e1, _, _⟩ := Zex h.nd q
      rw [e1, if_neg (by omega)]; rfl
    · rw [q, Zga h.neg]; rfl
theorem Zfq (hm : OKM ins outs rows) (h : CL rows ins l) (hl : l.length ≤ 64) : OKM ins outs (Zbs rows ins l) := by
  refine ⟨hm.i1, hm.i2, hm.o1, hm.o2, by rw [Zcx]; exact h.len, by rw [Zcx]; exact hl, fun s hs => ?_, fun s hs i hi => ?_⟩
  · rw [Zcx] at hs; exact Zih hs
  · rw [Zcx] at hs
    rw [Zlq hs hi, Zcx]
    have hx := Zci 0 hs
    have hr := h.rng _ hx
    unfold Zxf
    rcases hm.ok (l.getD s 0).toNat (by omega) i hi with e | e
    · rw [e]; exact .inl (by simp only [Zga h.neg])
    · have := h.clo _ hx i hi e.1
      obtain ⟨k, e1, e2, _⟩ := Zex h.nd this
      refine .inr ⟨?_, ?_, e.2.2.1, e.2.2.2⟩ <;> simp only [e1] <;> omega
/-- A step of the part is a step of the Zcc. -/
theorem Zst (hm : OKM ins outs rows) (h : CL rows ins l) {s i : Int} (hs : s ∈ l ∨ s = -1) (hi : 0 ≤ i ∧ i < ins) : nxt (Zbs rows ins l) (pos l s) i = (pos l (nxt rows s i).1, (nxt rows s i).2) ∧ ((nxt rows s i).1 ∈ l ∨ (nxt rows s i).1 = -1) := by
  rcases hs with hs | rfl
  · obtain ⟨k, e1, e2, e3⟩ := Zex h.nd hs
    have hr := h.rng s hs
    unfold nxt
    rw [e1, if_neg (by omega), if_neg (by omega), Int.toNat_natCast, Zlq e2 (by omega), e3]
    exact ⟨rfl, h.edge hm hs (by omega)⟩
  · rw [Zga h.neg]
    unfold nxt
    simp [Zga h.neg]
theorem Znc (hm : OKM ins outs rows) (h : CL rows ins l) : ∀ (w : Word) (s : Int), Wd ins w → (s ∈ l ∨ s = -1) → aft (Zbs rows ins l) (pos l s) w = pos l (aft rows s w) ∧ (aft rows s w ∈ l ∨ aft rows s w = -1)
  | [], s, _, hs => ⟨rfl, hs⟩
  | i :: w, s, hw, hs => by
    obtain ⟨h1, h2⟩ := Zst hm h hs (hw i List.mem_cons_self)
    have := Znc hm h w _ (fun x hx => hw x (List.mem_cons_of_mem _ hx)) h2
    simp only [aft, h1]
    exact this
theorem Znr (hm : OKM ins outs rows) (h : CL rows ins l) : ∀ (w : Word) (s : Int), Wd ins w → (s ∈ l ∨ s = -1) → runW (Zbs rows ins l) (pos l s) w = runW rows s w
  | [], s, _, hs => rfl
  | i :: w, s, hw, hs => by
    obtain ⟨h1, h2⟩ := Zst hm h hs (hw i List.mem_cons_self)
    have := Znr hm h w _ (fun x hx => hw x (List.mem_cons_of_mem _ hx)) h2
    simp only [runW, h1, this]
def mapR (l : List Int) (r : List (Nat × Word)) : List (Nat × Word) := r.map fun x => ((pos l x.1).toNat, x.2)
theorem Zrs (l : List Int) (a b : List (Nat × Word)) : mapR l (a ++ b) = mapR l a ++ mapR l b := by simp [mapR]
/-- Words tried in a row Zcp in the part what they Zcp in the Zcc. -/
theorem Zya (hm : OKM ins outs rows) (h : CL rows ins l) {cs : List Word} {vis r : List (Nat × Word)} (hF : Fifo rows ins (0 : Nat) cs vis r) : (∀ c ∈ cs, Wd ins c) → (∀ x ∈ vis, (x.1 : Int) ∈ l) → Fifo (Zbs rows ins l) ins (0 : Nat) cs (mapR l vis) (mapR l r) ∧ ∀ x ∈ r, (x.1 : Int) ∈ l := by
  have h0 : (0 : Int) ∈ l ∨ (0 : Int) = -1 := by
    left
    have := Zci (0 : Int) (l := l) (j := 0) (by have := h.len; omega)
    rw [h.zero] at this; exact this
  have key : ∀ c, Wd ins c → aft (Zbs rows ins l) ((0 : Nat) : Int) c = pos l (aft rows ((0 : Nat) : Int) c) ∧ (aft rows ((0 : Nat) : Int) c ∈ l ∨ aft rows ((0 : Nat) : Int) c = -1) := by
    intro c hc
    have := Znc hm h c 0 hc h0
    rw [h.pos0] at this
    exact this
  have lkm : ∀ (vis : List (Nat × Word)) (t : Nat), (∀ x ∈ vis, (x.1 : Int) ∈ l) → (t : Int) ∈ l → (lk (mapR l vis) (pos l t).toNat = none ↔ lk vis t = none) := by
    intro vis t hv ht
    induction vis with
    | nil => simp [mapR, lk]
    | cons x vis ih =>
      obtain ⟨s, w⟩ := x
      have ih := ih (fun x hx => hv x (List.mem_cons_of_mem _ hx))
      have hs := hv (s, w) List.mem_cons_self
      simp only [mapR, List.map_cons, lk] at ih ⊢
      obtain ⟨k1, a1, a2, a3⟩ := Zex h.nd hs
      obtain ⟨k2, b1, b2, b3⟩ := Zex h.nd ht
      by_cases e : s = t
      · subst e; simp
      · have : ¬ (pos l s).toNat = (pos l t).toNat := by
          intro e'
          rw [a1, b1] at e'
          simp only [Int.toNat_natCast] at e'
          subst e'
          rw [a3] at b3
          simp only at b3
          omega
        rw [if_neg this, if_neg e]
        exact ih
  induction hF with
  | nil vis => exact fun _ hv => ⟨.nil _, hv⟩
  | @skip c cs vis r hs hr ih =>
    intro hc hv
    obtain ⟨i1, i2⟩ := ih (fun c hx => hc c (List.mem_cons_of_mem _ hx)) hv
    obtain ⟨k1, k2⟩ := key c (hc c List.mem_cons_self)
    refine ⟨.skip ?_ i1, i2⟩
    rw [k1]
    rcases hs with hs | hs
    · have : aft rows ((0 : Nat) : Int) c = -1 := by
        rcases k2 with k2 | k2
        · have := (h.rng _ k2).1; omega
        · exact k2
      rw [this, Zga h.neg]; exact .inl (by omega)
    · rcases k2 with k2 | k2
      · right
        have hr := h.rng _ k2
        have := (lkm vis (aft rows ((0 : Nat) : Int) c).toNat hv (by rw [Int.toNat_of_nonneg hr.1]; exact k2))
        rw [Int.toNat_of_nonneg hr.1] at this
        exact fun e => hs (this.mp e)
      · left; rw [k2, Zga h.neg]; omega
  | @visit c cs vis r hs hr ih =>
    intro hc hv
    have hcw := hc c List.mem_cons_self
    obtain ⟨k1, k2⟩ := key c hcw
    have hn : ¬ aft rows ((0 : Nat) : Int) c < 0 := fun e => hs (.inl e)
    have k3 : aft rows ((0 : Nat) : Int) c ∈ l := by
      rcases k2 with k2 | k2
      · exact k2
      · rw [k2] at hn; simp at hn
    have hlk : lk vis (aft rows ((0 : Nat) : Int) c).toNat = none := by
      cases e : lk vis (aft rows ((0 : Nat) : Int) c).toNat with
      | none => rfl
      | some v => exact absurd (.inr (by rw [e]; simp)) hs
    have hr0 := h.rng _ k3
    have hto : (((aft rows ((0 : Nat) : Int) c).toNat : Nat) : Int) = aft rows ((0 : Nat) : Int) c := Int.toNat_of_nonneg hr0.1
    obtain ⟨i1, i2⟩ := ih (fun u hu => by
        rcases List.mem_append.mp hu with hu | hu
        · exact hc u (List.mem_cons_of_mem _ hu)
        · exact (Znp hcw hu).1) (fun x hx => by
        rcases List.mem_append.mp hx with hx | hx
        · exact hv x hx
        · simp only [List.mem_singleton] at hx; subst hx; simp only [hto]; exact k3)
    refine ⟨.visit ?_ ?_, i2⟩
    · rw [k1]
      obtain ⟨k, p1, _, _⟩ := Zex h.nd k3
      rintro (q | q)
      · omega
      · have := (lkm vis (aft rows ((0 : Nat) : Int) c).toNat hv (by rw [hto]; exact k3)).mpr hlk
        rw [hto] at this
        exact q this
    · rw [k1]
      rw [Zrs] at i1
      have : mapR l [((aft rows ((0 : Nat) : Int) c).toNat, c)] = [((pos l (aft rows ((0 : Nat) : Int) c)).toNat, c)] := by simp only [mapR, List.map_cons, List.map_nil, hto]
      rw [this] at i1
      exact i1
theorem Zyr (hnd : l.Nodup) {r : List (Nat × Word)} (hr : ∀ x ∈ r, (x.1 : Int) ∈ l) : ordR (mapR l r) = (ordR r).map (pos l) := by
  unfold ordR mapR
  rw [List.map_map, List.map_map]
  apply List.map_congr_left
  intro x hx
  obtain ⟨k, e1, _, _⟩ := Zex hnd (hr x hx)
  simp only [Function.comp, e1, Int.toNat_natCast]
/-- What is Zck is such a part. -/
theorem Zfd (hm : OKM ins outs rows) {r : List (Nat × Word)} (hF : Fifo rows ins (0 : Nat) [[]] [] r) (hI : FInv rows ins (0 : Nat) [] r) : CL rows ins (ordR r) := by
  have hd := hI.good.nodup
  have hn1 := hm.n1
  have hmem : ∀ (t : Nat) w, lk r t = some w → (t : Int) ∈ ordR r := by
    intro t w h
    have := (Zfi r t).mp (by rw [h]; rfl)
    unfold ordR
    obtain ⟨x, hx, rfl⟩ := List.mem_map.mp this
    exact List.mem_map_of_mem hx
  refine ⟨?_, ?_, ?_, ?_⟩
  · have : ordR r = (r.map (·.1)).map fun (t : Nat) => (t : Int) := by unfold ordR; rw [List.map_map]; rfl
    rw [this]
    unfold List.Nodup at hd ⊢
    rw [List.pairwise_map]
    exact List.Pairwise.imp (fun h e => h (by omega)) hd
  · intro x hx
    obtain ⟨y, hy, rfl⟩ := List.mem_map.mp hx
    have := hI.at_ y.1 y.2 (Zdb hd hy)
    omega
  · cases hF with
    | skip h hr =>
      rcases h with h | h
      · simp [aft] at h
      · exact absurd rfl h
    | visit h hr =>
      obtain ⟨zs, hz⟩ := Fifo.isPre hr
      rw [hz]
      simp [ordR, aft]
  · intro x hx i hi he
    obtain ⟨y, hy, rfl⟩ := List.mem_map.mp hx
    have hl := Zdb hd hy
    have ha := (hI.at_ y.1 y.2 hl).1
    have hstep : aft rows ((0 : Nat) : Int) (y.2 ++ [(i : Int)]) = (edg rows y.1 i).1 := by
      have : ∀ (w : Word) (s : Int) (j : Int), aft rows s (w ++ [j]) = (nxt rows (aft rows s w) j).1 := by
        intro w
        induction w with
        | nil => intro s j; rfl
        | cons a w ih => intro s j; simp only [List.cons_append, aft]; exact ih _ _
      rw [this, ha]
      unfold nxt
      rw [if_neg (by omega)]; simp
    simp only [Int.toNat_natCast] at he ⊢
    rcases hI.clo y.1 y.2 hl i hi (by rw [hstep]; exact he) with q | ⟨w', q, _⟩
    · cases q
    · rw [hstep] at q
      have := hmem _ _ q
      rw [Int.toNat_of_nonneg he] at this
      exact this
/-- The canonical form of a part is that of the Zcc. -/
theorem Zvd (hm : OKM ins outs rows) (h : CL rows ins l) {r : List (Nat × Word)} (hF : Fifo rows ins (0 : Nat) [[]] [] r) (hI : FInv rows ins (0 : Nat) [] r) (hr : ∀ x ∈ r, (x.1 : Int) ∈ l) : Zbs (Zbs rows ins l) ins ((ordR r).map (pos l)) = Zbs rows ins (ordR r) := by
  have hC := Zfd hm hF hI
  have hsub : ∀ x ∈ ordR r, x ∈ l := fun x hx => by obtain ⟨y, hy, rfl⟩ := List.mem_map.mp hx; exact hr y hy
  generalize ordR r = o at *
  rw [show Zbs (Zbs rows ins l) ins (o.map (pos l)) = (o.map (pos l)).map fun s => Zee (Zbs rows ins l) ins (o.map (pos l)) s.toNat from rfl, show Zbs rows ins o = o.map fun s => Zee rows ins o s.toNat from rfl, List.map_map]
  apply List.map_congr_left
  intro s hs
  obtain ⟨k, e1, e2, e3⟩ := Zex h.nd (hsub s hs)
  simp only [Function.comp, e1, Int.toNat_natCast]
  unfold Zee
  apply List.map_congr_left
  intro i hi
  rw [List.mem_range] at hi
  rw [Zlq e2 hi, e3]
  unfold Zxf
  simp only
  refine Prod.ext ?_ rfl
  simp only
  apply Yep
  intro y hy e
  have he := hC.edge hm hs hi
  refine Yfh h.nd (.inl (hsub y hy)) ?_ h.neg e
  rcases he with he | he
  · exact .inl (hsub _ he)
  · exact .inr he
end
end Go.AM
