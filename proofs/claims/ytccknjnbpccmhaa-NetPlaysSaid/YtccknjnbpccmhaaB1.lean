/- Messages appended; Send. -/
import Derived.Test.YtccknjnbpccmhaaA
namespace Go.Proofs.Ytccknjnbpccmhaa
open Go.RowKit

variable {w w' : World}

theorem infoMsg : (Try.prog.info? 25).map (fun i => (i.zero, i.size, i.bytes)) = some (some (.agg #[.int .i64 0, .int .i64 0, .slice none 0 0]), 3, 40) := by kernel_rfl

theorem Row.nil (w : World) : Row w (.slice none 0 0) [] := Own.nil w 25 3
theorem Row.made (w : World) : Row (w.alloc (.cells #[] 25)) (.slice (some ⟨w.heap.size, 0, none⟩) 0 0) [] := Own.made w 25 3
theorem Row.lit (w : World) (r : Mr) : Row (w.alloc (.cells #[.int .i64 r.m.frm, .int .i64 r.m.to, r.dv] 25)) (.slice (some ⟨w.heap.size, 0, none⟩) 1 1) [r] :=
  Own.lit w 25 3 1 #[.int .i64 r.m.frm, .int .i64 r.m.to, r.dv] rfl (by unfold maxLen; omega)

abbrev RowR (w : World) (v : Value) (rows : List Mr) : Prop := Rd w 25 3 v rows.length (cellsOf rows)

theorem step_appendM (v src : Value) (l m : List Mr) {ops : Array Oper} {o : Oper} {a : Act} {K : Act → World → Prop} {Q : Exit → Act → World → Prop} {E : Prop} (hgd : o.guard = none) (s x : Operand)
    (ho : o.op = .call { callee := .builtin .append, args := #[s, x], argTypes := #[31, 31] }) (hs : a.eval s = v) (hx : a.eval x = src) (hown : Row w v l) (hsrc : RowR w src m) (h1 : ∀ u ∈ cellsOf m, u.oneCell' = true)
    (hb : l.length + m.length ≤ 1099511627776)
    (h : ∀ v' w', Row w' v' (l ++ m) → Frm (fun k => v.ownBlock = some k) w w' → (v'.ownBlock = v.ownBlock ∨ v'.ownBlock = some w.heap.size) →
      (v ≠ .slice none 0 0 → v' ≠ .slice none 0 0) → K (a.put o.dst v') w') : if Region.wanted o (yielded ops a.tmps) = true then o.wp Try.prog a w K Q else E := by
  obtain ⟨i0, hi, hz0, hz1, hz2⟩ := info_parts infoMsg
  refine step_append hgd s x 31 ho i0 _ 40 Try.underlying31 hi hz0 hz1 hz2 rfl hs hx hown hsrc h1 (by unfold maxLen; omega) (by omega) ?_
  intro v' w' h1 h2 h3 h4
  rw [← cellsOf_append] at h1
  exact h v' w' (by unfold Row; rw [List.length_append]; exact h1) h2 h3 h4

theorem wpList_appendM (v src : Value) (l m : List Mr) {ops : Array Oper} {rest : List Oper} {o : Oper} {a : Act} {Q : Exit → Act → World → Prop} (hgd : o.guard = none) (s x : Operand)
    (ho : o.op = .call { callee := .builtin .append, args := #[s, x], argTypes := #[31, 31] }) (hs : a.eval s = v) (hx : a.eval x = src) (hown : Row w v l) (hsrc : RowR w src m) (h1 : ∀ u ∈ cellsOf m, u.oneCell' = true)
    (hb : l.length + m.length ≤ 1099511627776)
    (h : ∀ v' w', Row w' v' (l ++ m) → Frm (fun k => v.ownBlock = some k) w w' → (v'.ownBlock = v.ownBlock ∨ v'.ownBlock = some w.heap.size) →
      (v ≠ .slice none 0 0 → v' ≠ .slice none 0 0) → wpList Try.prog ops Q rest (a.put o.dst v') w') : wpList Try.prog ops Q (o :: rest) a w := by
  obtain ⟨i0, hi, hz0, hz1, hz2⟩ := info_parts infoMsg
  refine wpList_append hgd s x 31 ho i0 _ 40 Try.underlying31 hi hz0 hz1 hz2 rfl hs hx hown hsrc h1 (by unfold maxLen; omega) (by omega) ?_
  intro v' w' h1 h2 h3 h4
  rw [← cellsOf_append] at h1
  exact h v' w' (by unfold Row; rw [List.length_append]; exact h1) h2 h3 h4

/-- A message is laid behind a net's others: by what the append has left, and the store. -/
theorem net_push {T : TypeId} {w W w' : World} {bn : Nat} {v0 v v' : Value} {rows : List Mr} {r : Mr}
    (h1 : w.heap[bn]? = some (.cells #[v0] T (0, 0))) (h3 : ∀ r ∈ rows, OwnB w r.dv r.m.data) (hnd : (bn :: (v.ownBlock.toList ++ rows.flatMap Mr.blocks)).Nodup)
    (hlen : rows.length < 1024) (hdat : ∀ r ∈ rows, r.m.data.length ≤ 1048576) (hr : r.m.data.length ≤ 1048576)
    (g : Grew w W) (hrow : OwnB W r.dv r.m.data) (hfr : ∀ k, r.dv.ownBlock = some k → k ∉ bn :: (v.ownBlock.toList ++ rows.flatMap Mr.blocks))
    (hown : Row w' v' (rows ++ [r])) (f : Frm (fun k => v.ownBlock = some k) W w') (hv : v'.ownBlock = v.ownBlock ∨ v'.ownBlock = some W.heap.size) :
    ∃ S', NetAt T (w'.setCell ⟨bn, 0, none⟩ v') bn ((rows ++ [r]).map (·.m)) S' ∧ Frm (· ∈ bn :: (v.ownBlock.toList ++ rows.flatMap Mr.blocks)) w (w'.setCell ⟨bn, 0, none⟩ v') ∧
      ∀ k ∈ S', k ∈ bn :: (v.ownBlock.toList ++ rows.flatMap Mr.blocks) ∨ r.dv.ownBlock = some k ∨ w.heap.size ≤ k := by
  have hbn := lt_of_heap h1
  have gs := g.size
  have hrl : ∀ k, r.dv.ownBlock = some k → k < W.heap.size := hrow.lt
  obtain ⟨hn1, hn2⟩ := List.nodup_cons.1 hnd
  have hn3 := List.nodup_append.1 hn2
  have hbv : ∀ k, v.ownBlock = some k → k ≠ bn := fun k hk e => hn1 (by subst e; simp [hk])
  have hf1 : ∀ k, r.dv.ownBlock = some k → k ≠ bn := fun k hk e => hfr k hk (by simp [e])
  have hf2 : ∀ k, r.dv.ownBlock = some k → v.ownBlock ≠ some k := fun k hk e => hfr k hk (by simp [e])
  have hf3 : ∀ k, r.dv.ownBlock = some k → k ∉ rows.flatMap Mr.blocks := fun k hk e => hfr k hk (List.mem_cons_of_mem _ (List.mem_append.2 (.inr e)))
  have fset : Frm (fun k => k = bn) w' (w'.setCell ⟨bn, 0, none⟩ v') := (Frm.refl (fun k => k = bn) w').setCell (p := ⟨bn, 0, none⟩) (fun _ => rfl) _
  have hb' : w'.heap[bn]? = some (.cells #[v0] T (0, 0)) := f.keep (g.keepG h1) (fun e => hbv bn e rfl)
  have hvb : ∀ k, v'.ownBlock = some k → k ≠ bn := by
    intro k hk e
    rcases hv with h | h <;> rw [h] at hk
    · exact hbv k hk e
    · have := Option.some.inj hk; omega
  have hblk : ∀ x ∈ rows, ∀ k, x.dv.ownBlock = some k → k ∈ rows.flatMap Mr.blocks := fun x hx k hk => List.mem_flatMap.2 ⟨x, hx, by simp [Mr.blocks, hk]⟩
  have hblt : ∀ k ∈ rows.flatMap Mr.blocks, k < w.heap.size := fun k hk => by
    obtain ⟨x, hx, hk⟩ := List.mem_flatMap.1 hk
    exact (h3 x hx).lt k (by simpa [Mr.blocks] using hk)
  refine ⟨bn :: (v'.ownBlock.toList ++ (rows ++ [r]).flatMap Mr.blocks), ⟨v', rows ++ [r], ?_, hown.keep fset hvb, ?_, rfl, rfl, ?_, by simp; omega, ?_⟩, ?_, ?_⟩
  · rw [heap_setCell_eq hb']; rfl
  · intro x hx
    rcases List.mem_append.1 hx with hx | hx
    · have hk1 : ∀ k, x.dv.ownBlock = some k → v.ownBlock ≠ some k := fun k hk e => hn3.2.2 k (by simp [e]) k (hblk x hx k hk) rfl
      exact (((h3 x hx).keepG g).keep f (fun k hk => hk1 k hk)).keep fset (fun k hk e => hn1 (by rw [← e]; exact List.mem_append.2 (.inr (hblk x hx k hk))))
    · obtain rfl := List.mem_singleton.1 hx
      exact (hrow.keep f (fun k hk e => hf2 k hk e)).keep fset (fun k hk e => hf1 k hk e)
  · refine List.nodup_cons.2 ⟨?_, List.nodup_append.2 ⟨by cases v'.ownBlock <;> simp, ?_, ?_⟩⟩
    · intro hm
      simp only [List.mem_append, Option.mem_toList, List.flatMap_append] at hm
      rcases hm with hm | hm | hm
      · exact hvb bn hm rfl
      · exact hn1 (List.mem_append.2 (.inr hm))
      · exact hf1 bn (by simpa [Mr.blocks] using hm) rfl
    · rw [List.flatMap_append]
      refine List.nodup_append.2 ⟨hn3.2.1, ?_, ?_⟩
      · simp only [List.flatMap_cons, List.flatMap_nil, List.append_nil, Mr.blocks]
        cases r.dv.ownBlock <;> simp
      · intro a ha b hb e
        subst e
        exact hf3 a (by simpa [Mr.blocks] using hb) ha
    · intro a ha b hb e
      subst e
      have ha' : v'.ownBlock = some a := by simpa using ha
      rw [List.flatMap_append, List.mem_append] at hb
      rcases hv with h | h <;> rw [h] at ha'
      · rcases hb with hb | hb
        · exact hn3.2.2 a (by simp [ha']) a hb rfl
        · exact hf2 a (by simpa [Mr.blocks] using hb) ha'
      · have ha2 := Option.some.inj ha'
        rcases hb with hb | hb
        · have := hblt a hb; omega
        · have := hrl a (by simpa [Mr.blocks] using hb); omega
  · intro m hm
    obtain ⟨x, hx, rfl⟩ := List.mem_map.1 hm
    rcases List.mem_append.1 hx with hx | hx
    · exact hdat x hx
    · obtain rfl := List.mem_singleton.1 hx; exact hr
  · refine Grew.trans g ((f.mono (fun k hk e => ?_)).trans (fset.mono (fun k _ e => ?_)) (fun k _ h => h))
    · simp [e]
    · simp [e]
  · intro k hk
    simp only [List.mem_cons, List.mem_append, Option.mem_toList, List.flatMap_append] at hk ⊢
    rcases hk with h | h | h | h
    · exact .inl (.inl h)
    · rcases hv with h' | h' <;> rw [h'] at h
      · exact .inl (.inr (.inl h))
      · have := Option.some.inj h; exact .inr (.inr (by omega))
    · exact .inl (.inr (.inr h))
    · exact .inr (.inl (by simpa [Mr.blocks] using h))

set_option maxRecDepth 100000 in
set_option maxHeartbeats 1000000 in
theorem rnown_spec (w : World) (f t : Int) (dv : Value) (data : List UInt8) (hd : Bytes w dv data) (hl : data.length ≤ 1048576) :
    Calls Try.prog 22 #[.agg #[.int .i64 f, .int .i64 t, dv]] w (OwnPost w f t data) := by
  obtain ⟨da, dc, rfl, k4, k5, k6⟩ := hd.shape
  unfold maxLen at k5 k6
  have gg : Grew w ((w.alloc (.cells #[.int .i64 f, .int .i64 t, .slice da data.length dc] 25)).alloc (.cells #[.int .i64 0, .int .i64 0, .slice none 0 0] 25)) := (grew_alloc w _).alloc _
  have b1 := heap_alloc_new' w (.cells #[.int .i64 f, .int .i64 t, .slice da data.length dc] 25)
  have b2 := heap_alloc_new' (w.alloc (.cells #[.int .i64 f, .int .i64 t, .slice da data.length dc] 25)) (.cells #[.int .i64 0, .int .i64 0, .slice none 0 0] 25)
  simp only [World.size_alloc] at b2
  have b1' := (grew_alloc _ (.cells #[.int .i64 0, .int .i64 0, .slice none 0 0] 25)).keepG b1
  have hz1 : w.heap.size < ((w.alloc (.cells #[.int .i64 f, .int .i64 t, .slice da data.length dc] 25)).alloc (.cells #[.int .i64 0, .int .i64 0, .slice none 0 0] 25)).heap.size := lt_of_heap b1'
  have hz2 : w.heap.size + 1 < ((w.alloc (.cells #[.int .i64 f, .int .i64 t, .slice da data.length dc] 25)).alloc (.cells #[.int .i64 0, .int .i64 0, .slice none 0 0] 25)).heap.size := lt_of_heap b2
  have Hb := Lib.hid (And.intro b1' b2)
  clear b1 b2 b1'
  have hmade : OwnB (((w.alloc (.cells #[.int .i64 f, .int .i64 t, .slice da data.length dc] 25)).alloc (.cells #[.int .i64 0, .int .i64 0, .slice none 0 0] 25)).alloc (.cells #[] 5)) (.slice (some ⟨w.heap.size + 1 + 1, 0, none⟩) 0 0) [] := by
    have h := Own.made ((w.alloc (.cells #[.int .i64 f, .int .i64 t, .slice da data.length dc] 25)).alloc (.cells #[.int .i64 0, .int .i64 0, .slice none 0 0] 25)) 5 1
    simp only [World.size_alloc] at h
    exact h
  have Hm := Lib.hid hmade
  clear hmade
  go_enter Try.func22, Try.ntmps22
  go_wp2_with (at_builtin; first
    | (refine wpList_appendB (.slice (some ⟨w.heap.size + 1 + 1, 0, none⟩) 0 0) (.slice da data.length dc) [] data rfl _ _ rfl rfl rfl Hm.out ((hd.keepG gg).keepG (grew_alloc _ _)) (by simp; omega) ?_
       intro v' w2 p1 p2 p3 p4
       obtain ⟨va, vc, rfl, _, _, _⟩ := p1.rd.shape
       have f0 : Frm (fun k => k = w.heap.size + 1 + 1) ((w.alloc (.cells #[.int .i64 f, .int .i64 t, .slice da data.length dc] 25)).alloc (.cells #[.int .i64 0, .int .i64 0, .slice none 0 0] 25)) w2 := Grew.trans (grew_alloc _ _) (p2.mono (fun k _ e => (Option.some.inj e).symm))
       have e1 := f0.keep Hb.out.1 (by omega)
       have e2 := f0.keep Hb.out.2 (by omega)
       have c10 : w2.cell? ⟨w.heap.size, 0, none⟩ = _ := cell_is e1 0 (.int .i64 f) rfl
       have c11 : w2.cell? ⟨w.heap.size, 1, none⟩ = _ := cell_is e1 1 (.int .i64 t) rfl
       have c12 : w2.cell? ⟨w.heap.size, 2, none⟩ = _ := cell_is e1 2 (.slice da data.length dc) rfl
       have c20 : w2.cell? ⟨w.heap.size + 1, 0, none⟩ = _ := cell_is e2 0 (.int .i64 0) rfl
       have c21 : w2.cell? ⟨w.heap.size + 1, 1, none⟩ = _ := cell_is e2 1 (.int .i64 0) rfl
       have c22 : w2.cell? ⟨w.heap.size + 1, 2, none⟩ = _ := cell_is e2 2 (.slice none 0 0) rfl
       have f1 := frozen_of e1
       have f2 := frozen_of e2))
  have f3 : Frm (fun k => k = w.heap.size ∨ k = w.heap.size + 1) w2 ((((w2.setCell ⟨w.heap.size, 2, none⟩ (.slice va data.length vc)).setCell ⟨w.heap.size + 1, 0, none⟩ (.int .i64 f)).setCell ⟨w.heap.size + 1, 1, none⟩ (.int .i64 t)).setCell ⟨w.heap.size + 1, 2, none⟩ (.slice va data.length vc)) :=
    ((((Frm.refl _ w2).setCell (fun _ => .inl rfl) _).setCell (fun _ => .inr rfl) _).setCell (fun _ => .inr rfl) _).setCell (fun _ => .inr rfl) _
  have hfr : ∀ k, (Value.slice va data.length vc).ownBlock = some k → w.heap.size + 1 + 1 ≤ k := by
    intro k hk
    have h3 : (Value.slice va data.length vc).ownBlock = some (w.heap.size + 1 + 1) ∨ (Value.slice va data.length vc).ownBlock = some (w.heap.size + 1 + 1 + 1) := by simpa [Value.ownBlock] using p3
    rcases h3 with h | h <;> rw [h] at hk <;> have := Option.some.inj hk <;> omega
  have p1' : OwnB w2 (.slice va data.length vc) data := by simpa using p1
  refine bodyPost_ret (v := .agg #[.int .i64 f, .int .i64 t, .slice va data.length vc]) (by simp [results, Try.results22, go_sem, c20, c21, c22]) rfl ⟨_, rfl, p1'.keep f3 (fun k hk => ?_), Frm.trans (Frm.trans gg f0 (fun k hk e => by omega)) f3 (fun k hk h => by omega), fun k hk => ?_⟩
  · have := hfr k hk
    omega
  · have := hfr k hk
    omega
set_option maxRecDepth 100000 in
set_option maxHeartbeats 2000000 in
theorem nSend_spec (w : World) (bn : Nat) (l : List Mg) (S : List Nat) (h : NetAt 47 w bn l S) (f t : Int) (dv : Value) (data : List UInt8) (hd : Bytes w dv data) (hl : data.length ≤ 1048576) :
    Calls Try.prog 6 #[.pointer (some ⟨bn, 0, none⟩), .agg #[.int .i64 f, .int .i64 t, dv]] w (NetPost 47 w bn S (.bool (netOk l)) (netSend l ⟨f, t, data⟩)) := by
  have h0 := h
  obtain ⟨v, rows, h1, h2, h3, rfl, rfl, hnd, hlen, hdat⟩ := h
  obtain ⟨va, vc, rfl, k1, k2, k3⟩ := h2.rd.shape
  obtain ⟨da, dc, rfl, k4, k5, k6⟩ := hd.shape
  unfold maxLen at k2 k3 k5 k6
  have c1 : w.cell? ⟨bn, 0, none⟩ = some (.slice va rows.length vc) := cell_is h1 0 _ rfl
  have l1 := lt_of_heap h1
  have hnb : (Value.slice va rows.length vc).ownBlock ≠ some bn := fun e => (List.nodup_cons.1 hnd).1 (by simp [e])
  rw [List.length_map] at hlen
  by_cases hlt : rows.length < 1024
  · rw [show netOk (rows.map (·.m)) = true by simp [netOk, hlt], show netSend (rows.map (·.m)) ⟨f, t, data⟩ = rows.map (·.m) ++ [⟨f, t, data⟩] by simp [netSend, hlt]]
    have hdec : decide ((1024 : Int) ≤ (rows.length : Int)) = false := decide_eq_false (by omega)
    go_enter Try.func6, Try.ntmps6
    go_wp2_with fail
    generalize hw1 : World.alloc w _ = w1
    have g1 : Grew w w1 := hw1 ▸ grew_alloc w _
    have hbx : w1.heap[w.heap.size]? = some (.cells #[.int .i64 f, .int .i64 t, .slice da data.length dc] 25 (0, 0)) := hw1 ▸ heap_alloc_new' w _
    have hbx0 : w.heap.size ≤ w.heap.size := Nat.le_refl _
    generalize hbxe : w.heap.size = bx at hbx ⊢
    clear hw1 c1
    have d1 : w1.drew.cell? ⟨bn, 0, none⟩ = some (.slice va rows.length vc) := cell_is (g1.keepG h1) 0 _ rfl
    have d2 : w1.drew.cell? ⟨bx, 0, none⟩ = some (.int .i64 f) := cell_is hbx 0 _ rfl
    have d3 : w1.drew.cell? ⟨bx, 1, none⟩ = some (.int .i64 t) := cell_is hbx 1 _ rfl
    have d4 : w1.drew.cell? ⟨bx, 2, none⟩ = some (.slice da data.length dc) := cell_is hbx 2 _ rfl
    have gd : Grew w w1.drew := Frm.drew g1
    go_region_law (first
        | (go_simp
           go_at_call 21
           (with_reducible refine (nown_spec _ f t _ data (hd.keepG gd) hl).mono ?_)
           rintro e w2 ⟨dv', rfl, hd2, g2, fr2⟩
           obtain ⟨ea, ec, rfl, _, _, _⟩ := hd2.rd.shape
           have q1 := g2.cellG d1
           have q2 := g2.cellG d2
           have q3 := g2.cellG d3
           have q4 := g2.cellG d4
           have G2 : Grew w w2 := Grew.trans gd g2
           have l2 := lt_of_heap (G2.keepG h1))
        | (refine step_appendM (.slice va rows.length vc) (.slice (some ⟨w2.heap.size, 0, none⟩) 1 1) rows [⟨.slice ea data.length ec, ⟨f, t, data⟩⟩] rfl _ _ rfl rfl rfl ((h2.keepG G2).keepG (grew_alloc w2 _)) (Row.lit w2 ⟨.slice ea data.length ec, ⟨f, t, data⟩⟩).rd
             (cellsOf_one (w := w2) (fun r hr => by obtain rfl := List.mem_singleton.1 hr; exact hd2)) (by simp; omega) ?_
           intro v' w3 a1 a2 a3 a4
           obtain ⟨ra, rc, rfl, _, _, _⟩ := a1.rd.shape
           have b3 : w3.heap[bn]? = some (.cells #[.slice va rows.length vc] 47 (0, 0)) := a2.keep ((G2.alloc _).keepG h1) (fun e => hnb e)
           have q5 : w3.cell? ⟨bn, 0, none⟩ = some (.slice va rows.length vc) := cell_is b3 0 _ rfl
           have q6 := frozen_of b3 0))
    all_goals go_wp2_with fail
    all_goals go_ret
    all_goals
      obtain ⟨S', n1, n2, n3⟩ := net_push (r := ⟨.slice ea data.length ec, ⟨f, t, data⟩⟩) h1 h3 hnd hlt (fun r hr => hdat r.m (List.mem_map.2 ⟨r, hr, rfl⟩)) hl (G2.alloc _) (hd2.keepG (grew_alloc w2 _)) (fun k hk hkS => by have h1 := Nat.le_trans gd.size (fr2 k hk); have h2 := h0.lt k hkS; omega) a1 a2 a3
      exact ⟨S', rfl, by simpa using n1, by simpa using n2, fun k hk => (n3 k hk).imp id (fun h => h.elim (fun h => Nat.le_trans gd.size (fr2 k h)) id)⟩
  · rw [show netOk (rows.map (·.m)) = false by simp [netOk, hlt], show netSend (rows.map (·.m)) ⟨f, t, data⟩ = rows.map (·.m) by simp [netSend, hlt]]
    have hdec : decide ((1024 : Int) ≤ (rows.length : Int)) = true := decide_eq_true (by omega)
    go_enter Try.func6, Try.ntmps6
    go_wp2_with fail
    go_ret
    exact ⟨_, rfl, h0.keepG (grew_alloc w _), Frm.of_grew (grew_alloc w _), fun k hk => .inl hk⟩
set_option maxRecDepth 100000 in
set_option maxHeartbeats 2000000 in
theorem rnSend_spec (w : World) (bn : Nat) (l : List Mg) (S : List Nat) (h : NetAt 33 w bn l S) (f t : Int) (dv : Value) (data : List UInt8) (hd : Bytes w dv data) (hl : data.length ≤ 1048576) :
    Calls Try.prog 7 #[.pointer (some ⟨bn, 0, none⟩), .agg #[.int .i64 f, .int .i64 t, dv]] w (NetPost 33 w bn S (.bool (netOk l)) (netSend l ⟨f, t, data⟩)) := by
  have h0 := h
  obtain ⟨v, rows, h1, h2, h3, rfl, rfl, hnd, hlen, hdat⟩ := h
  obtain ⟨va, vc, rfl, k1, k2, k3⟩ := h2.rd.shape
  obtain ⟨da, dc, rfl, k4, k5, k6⟩ := hd.shape
  unfold maxLen at k2 k3 k5 k6
  have c1 : w.cell? ⟨bn, 0, none⟩ = some (.slice va rows.length vc) := cell_is h1 0 _ rfl
  have l1 := lt_of_heap h1
  have hnb : (Value.slice va rows.length vc).ownBlock ≠ some bn := fun e => (List.nodup_cons.1 hnd).1 (by simp [e])
  rw [List.length_map] at hlen
  by_cases hlt : rows.length < 1024
  · rw [show netOk (rows.map (·.m)) = true by simp [netOk, hlt], show netSend (rows.map (·.m)) ⟨f, t, data⟩ = rows.map (·.m) ++ [⟨f, t, data⟩] by simp [netSend, hlt]]
    have hdec : decide ((1024 : Int) ≤ (rows.length : Int)) = false := decide_eq_false (by omega)
    go_enter Try.func7, Try.ntmps7
    go_wp2_with fail
    generalize hw1 : World.alloc w _ = w1
    have g1 : Grew w w1 := hw1 ▸ grew_alloc w _
    have hbx : w1.heap[w.heap.size]? = some (.cells #[.int .i64 f, .int .i64 t, .slice da data.length dc] 25 (0, 0)) := hw1 ▸ heap_alloc_new' w _
    have hbx0 : w.heap.size ≤ w.heap.size := Nat.le_refl _
    generalize hbxe : w.heap.size = bx at hbx ⊢
    clear hw1 c1
    have d1 : w1.drew.cell? ⟨bn, 0, none⟩ = some (.slice va rows.length vc) := cell_is (g1.keepG h1) 0 _ rfl
    have d2 : w1.drew.cell? ⟨bx, 0, none⟩ = some (.int .i64 f) := cell_is hbx 0 _ rfl
    have d3 : w1.drew.cell? ⟨bx, 1, none⟩ = some (.int .i64 t) := cell_is hbx 1 _ rfl
    have d4 : w1.drew.cell? ⟨bx, 2, none⟩ = some (.slice da data.length dc) := cell_is hbx 2 _ rfl
    have gd : Grew w w1.drew := Frm.drew g1
    go_region_law (first
        | (go_simp
           go_at_call 22
           (with_reducible refine (rnown_spec _ f t _ data (hd.keepG gd) hl).mono ?_)
           rintro e w2 ⟨dv', rfl, hd2, g2, fr2⟩
           obtain ⟨ea, ec, rfl, _, _, _⟩ := hd2.rd.shape
           have q1 := g2.cellG d1
           have q2 := g2.cellG d2
           have q3 := g2.cellG d3
           have q4 := g2.cellG d4
           have G2 : Grew w w2 := Grew.trans gd g2
           have l2 := lt_of_heap (G2.keepG h1))
        | (refine step_appendM (.slice va rows.length vc) (.slice (some ⟨w2.heap.size, 0, none⟩) 1 1) rows [⟨.slice ea data.length ec, ⟨f, t, data⟩⟩] rfl _ _ rfl rfl rfl ((h2.keepG G2).keepG (grew_alloc w2 _)) (Row.lit w2 ⟨.slice ea data.length ec, ⟨f, t, data⟩⟩).rd
             (cellsOf_one (w := w2) (fun r hr => by obtain rfl := List.mem_singleton.1 hr; exact hd2)) (by simp; omega) ?_
           intro v' w3 a1 a2 a3 a4
           obtain ⟨ra, rc, rfl, _, _, _⟩ := a1.rd.shape
           have b3 : w3.heap[bn]? = some (.cells #[.slice va rows.length vc] 33 (0, 0)) := a2.keep ((G2.alloc _).keepG h1) (fun e => hnb e)
           have q5 : w3.cell? ⟨bn, 0, none⟩ = some (.slice va rows.length vc) := cell_is b3 0 _ rfl
           have q6 := frozen_of b3 0))
    all_goals go_wp2_with fail
    all_goals go_ret
    all_goals
      obtain ⟨S', n1, n2, n3⟩ := net_push (r := ⟨.slice ea data.length ec, ⟨f, t, data⟩⟩) h1 h3 hnd hlt (fun r hr => hdat r.m (List.mem_map.2 ⟨r, hr, rfl⟩)) hl (G2.alloc _) (hd2.keepG (grew_alloc w2 _)) (fun k hk hkS => by have h1 := Nat.le_trans gd.size (fr2 k hk); have h2 := h0.lt k hkS; omega) a1 a2 a3
      exact ⟨S', rfl, by simpa using n1, by simpa using n2, fun k hk => (n3 k hk).imp id (fun h => h.elim (fun h => Nat.le_trans gd.size (fr2 k h)) id)⟩
  · rw [show netOk (rows.map (·.m)) = false by simp [netOk, hlt], show netSend (rows.map (·.m)) ⟨f, t, data⟩ = rows.map (·.m) by simp [netSend, hlt]]
    have hdec : decide ((1024 : Int) ≤ (rows.length : Int)) = true := decide_eq_true (by omega)
    go_enter Try.func7, Try.ntmps7
    go_wp2_with fail
    go_ret
    exact ⟨_, rfl, h0.keepG (grew_alloc w _), Frm.of_grew (grew_alloc w _), fun k hk => .inl hk⟩
end Go.Proofs.Ytccknjnbpccmhaa
