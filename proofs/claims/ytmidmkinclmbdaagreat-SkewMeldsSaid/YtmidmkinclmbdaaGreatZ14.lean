/-
  The plain law of (skew) binomial heaps: a world that is right is told so; the calls.
-/
import Derived.Test.YtmidmkinclmbdaaGreatZ13
set_option linter.unusedVariables false
set_option linter.unusedSimpArgs false
set_option maxRecDepth 10000
namespace Go.Proofs.YtmidmkinclmbdaaGreat
open Go.Th

theorem Wd.arena {C n : Nat} {a a' : arena_Arena} {r0 r1 : Int} {h0 h1 : List thicketlaw11_held} {next : Int} {f g : F} {it : Nat → It} {l m : List It} (W : Wd C a r0 r1 h0 h1 next f g it l m) {κ : Cfg} (hκ : κ.C = C) (H : Hp κ n a' it (nd f (-1) ++ nd g (-1)) []) : Wd C a' r0 r1 h0 h1 next f g it l m :=
  { W with hp := hκ ▸ H.rebase }
theorem Wd.items {C : Nat} {a : arena_Arena} {r0 r1 : Int} {h0 h1 : List thicketlaw11_held} {next : Int} {f g : F} {it : Nat → It} {l m : List It} (W : Wd C a r0 r1 h0 h1 next f g it l m) : (l.map It.i).Nodup := by
  have h1 := (List.nodup_append.1 (List.nodup_append.1 W.hp.nodup).1).2.1
  have h2 : ((nd f (-1) ++ nd g (-1)).map fun ν => (it ν.c).i) = (f.cells ++ g.cells).map fun c => (it c).i := by
    rw [← nd_cells f (-1), ← nd_cells g (-1), ← List.map_append, List.map_map]; rfl
  rw [h2, List.map_append] at h1
  have h3 := (List.nodup_append.1 h1).1
  have h4 := W.p0.map It.i
  rw [List.map_map] at h4
  exact h4.nodup_iff.2 h3
/-- what is looked at behind Min -/
theorem look_ok0 {k C : Nat} {w : thicketlaw11_world} {f g : F} {it : Nat → It} {l m : List It} (W : Wd C w.a_ w.root0 w.root1 w.has0 w.has1 w.next f g it l m) (hl : l.length < 1000) (hk : 300000 < k) :
    Do ((skew_All k w.a_ w.root0).bind fun t_6 => (thicketlaw11_cells k w.has0).bind fun t_7 => (thicketbook_Same_int k t_6.1 t_7).bind fun t_8 =>
      (bif !t_8 then some (true, WA w t_6.2) else (thicketlaw11_world_shape k (WA w t_6.2) 0).bind fun t_9 => some (!t_9.1, t_9.2))) fun r => ∃ a', r = (false, WA w a') ∧ Wd C a' w.root0 w.root1 w.has0 w.has1 w.next f g it l m := by
  have hfs := W.fs
  have hcells : ∀ c ∈ f.cells, it c ∈ l := fun c hc => W.p0.mem_iff.2 (List.mem_map_of_mem hc)
  rw [W.e0, W.i0]
  refine (all_spec (k := k) W.hp (by omega)).bind ?_
  rintro _ ⟨a1, rfl, H1⟩
  refine Do.seq (cells_spec (k := k) l (by omega) (by omega)) ?_
  have e9 : iSort (zl (l.map It.i)) = iSort (zl (f.cells.map fun c => (it c).i)) := by
    refine iSort_congr ?_
    have := (W.p0.map It.i).map (fun c : Nat => (c : Int))
    simpa [zl, Function.comp_def] using this
  rw [e9]
  have hsl : (iSort (zl (f.cells.map fun c => (it c).i))).length = l.length := by
    rw [(iSort_perm _).length_eq]; simp [zl, F.size_cells, hfs]
  refine Do.seq (same_spec (k := k) (iSort (zl (f.cells.map fun c => (it c).i))) (by omega) (by omega)) ?_
  refine Do.f rfl ?_
  refine (shape_ok0 (k := k) (w := WA w a1) l hl W.items W.hf hfs (fun ν hν => List.mem_append_left _ hν) hcells (by omega) W.i0 W.e0 H1).bind ?_
  rintro _ ⟨a2, n2, rfl, H2⟩
  exact ⟨_, rfl, a2, rfl, by rw [← W.e0, ← W.i0]; exact W.arena rfl H2⟩
theorem half_ok0 {k C : Nat} {w : thicketlaw11_world} {f g : F} {it : Nat → It} {l m : List It} {α : Type} {Q : α → Prop} {X : Bool × thicketlaw11_world → Option α} (W : Wd C w.a_ w.root0 w.root1 w.has0 w.has1 w.next f g it l m) (hl : l.length < 1000) (hk : 300000 < k)
    (K : ∀ (a' : arena_Arena) (sp mo : Int), Wd C a' w.root0 w.root1 w.has0 w.has1 w.next f g it l m → Do (X (false, thicketlaw11_world.mk a' w.root0 w.root1 w.has0 w.has1 w.next sp mo)) Q) (Y : thicketlaw11_world → Option α) :
    Do ((skew_Min k w.a_ w.root0).bind fun t_3 =>
    (thicketlaw11_world_cost k (WA w t_3.2) w.a_.m_.steps 1 (w.has0.length : Int)).bind fun t_4 =>
    (bif !t_4.1 then Y t_4.2
    else
      ((bif (w.has0.length : Int) == 0 then
        (bif t_3.1 != (-1) then
          some (true, thicketlaw11_world.mk t_4.2.a_ t_4.2.root0 t_4.2.root1 w.has0 w.has1 t_4.2.next t_4.2.spent t_4.2.most)
        else
          (bif t_4.2.root0 != (-1) then
            some (true, thicketlaw11_world.mk t_4.2.a_ t_4.2.root0 t_4.2.root1 w.has0 w.has1 t_4.2.next t_4.2.spent t_4.2.most)
          else
            (bif decide ((w.has0.length : Int) > 0) then
              (thicketlaw11_least k w.has0).bind fun t_5 =>
              (mIdx w.has0 t_5).bind fun x =>
              (bif t_3.1 != x.cell then
                some (true, thicketlaw11_world.mk t_4.2.a_ t_4.2.root0 t_4.2.root1 w.has0 w.has1 t_4.2.next t_4.2.spent t_4.2.most)
              else
                (skew_All k t_4.2.a_ t_4.2.root0).bind fun t_6 =>
                (thicketlaw11_cells k w.has0).bind fun t_7 =>
                (thicketbook_Same_int k t_6.1 t_7).bind fun t_8 =>
                (bif !t_8 then
                  some (true, thicketlaw11_world.mk t_6.2 t_4.2.root0 t_4.2.root1 w.has0 w.has1 t_4.2.next t_4.2.spent t_4.2.most)
                else
                  (thicketlaw11_world_shape k (thicketlaw11_world.mk t_6.2 t_4.2.root0 t_4.2.root1 w.has0 w.has1 t_4.2.next t_4.2.spent t_4.2.most) 0).bind fun t_9 =>
                  some (!t_9.1, t_9.2)))
            else
              (skew_All k t_4.2.a_ t_4.2.root0).bind fun t_10 =>
              (thicketlaw11_cells k w.has0).bind fun t_11 =>
              (thicketbook_Same_int k t_10.1 t_11).bind fun t_12 =>
              (bif !t_12 then
                some (true, thicketlaw11_world.mk t_10.2 t_4.2.root0 t_4.2.root1 w.has0 w.has1 t_4.2.next t_4.2.spent t_4.2.most)
              else
                (thicketlaw11_world_shape k (thicketlaw11_world.mk t_10.2 t_4.2.root0 t_4.2.root1 w.has0 w.has1 t_4.2.next t_4.2.spent t_4.2.most) 0).bind fun t_13 =>
                some (!t_13.1, t_13.2)))))
      else
        (bif decide ((w.has0.length : Int) > 0) then
          (thicketlaw11_least k w.has0).bind fun t_14 =>
          (mIdx w.has0 t_14).bind fun x1 =>
          (bif t_3.1 != x1.cell then
            some (true, thicketlaw11_world.mk t_4.2.a_ t_4.2.root0 t_4.2.root1 w.has0 w.has1 t_4.2.next t_4.2.spent t_4.2.most)
          else
            (skew_All k t_4.2.a_ t_4.2.root0).bind fun t_15 =>
            (thicketlaw11_cells k w.has0).bind fun t_16 =>
            (thicketbook_Same_int k t_15.1 t_16).bind fun t_17 =>
            (bif !t_17 then
              some (true, thicketlaw11_world.mk t_15.2 t_4.2.root0 t_4.2.root1 w.has0 w.has1 t_4.2.next t_4.2.spent t_4.2.most)
            else
              (thicketlaw11_world_shape k (thicketlaw11_world.mk t_15.2 t_4.2.root0 t_4.2.root1 w.has0 w.has1 t_4.2.next t_4.2.spent t_4.2.most) 0).bind fun t_18 =>
              some (!t_18.1, t_18.2)))
        else
          (skew_All k t_4.2.a_ t_4.2.root0).bind fun t_19 =>
          (thicketlaw11_cells k w.has0).bind fun t_20 =>
          (thicketbook_Same_int k t_19.1 t_20).bind fun t_21 =>
          (bif !t_21 then
            some (true, thicketlaw11_world.mk t_19.2 t_4.2.root0 t_4.2.root1 w.has0 w.has1 t_4.2.next t_4.2.spent t_4.2.most)
          else
            (thicketlaw11_world_shape k (thicketlaw11_world.mk t_19.2 t_4.2.root0 t_4.2.root1 w.has0 w.has1 t_4.2.next t_4.2.spent t_4.2.most) 0).bind fun t_22 =>
            some (!t_22.1, t_22.2))))).bind X)) Q := by
  have hfs := W.fs
  have hgs := W.gs
  have hs0 := W.hp.span
  have hlen := W.hf.len (R := 10) (by omega)
  have hmin := min_spec (k := k) W.hp W.hf (by omega)
  rw [← W.e0] at hmin
  have hhl : w.has0.length = l.length := by rw [W.i0, List.length_map]
  refine hmin.bind ?_
  rintro r ⟨a1, H1, hr⟩
  have hs := H1.span
  have hra : r.2 = a1 := by
    rcases hr with ⟨_, rfl⟩ | ⟨c, _, rfl, _⟩ <;> rfl
  have W1 : Wd C a1 w.root0 w.root1 w.has0 w.has1 w.next f g it l m := W.arena rfl H1
  rw [hhl]
  refine (cost_spec (k := k) (WA w r.2) w.a_.m_.steps 1 l.length (by omega) (by omega) hs0.1 (by rw [hra]; exact hs.2.1) (Or.inl (by rw [hra]; have := hs.2.2.1; simp only [bs] at this ⊢; omega)) (by rw [hra]; exact hs.2.2.2)).bind ?_
  rintro _ ⟨sp', mo', rfl⟩
  rw [hra]
  refine Do.f rfl ?_
  have fin := look_ok0 (k := k) (w := thicketlaw11_world.mk a1 w.root0 w.root1 w.has0 w.has1 w.next sp' mo') W1 hl hk
  have fin' : ∀ {o : Option (Bool × thicketlaw11_world)}, Do o (fun r => ∃ a', r = (false, WA (thicketlaw11_world.mk a1 w.root0 w.root1 w.has0 w.has1 w.next sp' mo') a') ∧ Wd C a' w.root0 w.root1 w.has0 w.has1 w.next f g it l m) → Do (o.bind X) Q := by
    intro o h
    refine h.bind ?_
    rintro _ ⟨a', rfl, W'⟩
    exact K a' sp' mo' W'
  by_cases hne : l = []
  · subst hne
    have hfn : f = .nil := by
      cases f with
      | nil => rfl
      | cons => simp [F.size] at hfs
    have hr1 : r.1 = -1 := by
      rcases hr with ⟨_, rfl⟩ | ⟨c, hc, _⟩
      · rfl
      · rw [hfn] at hc; simp [F.cells] at hc
    have hroot : w.root0 = -1 := by rw [W.e0, hfn]; rfl
    refine Do.tb rfl (Do.fb (by rw [hr1]; rfl) (Do.fb (by simp only [hroot]; rfl) (Do.fb rfl ?_)))
    exact fin' fin
  · have hlp : 0 < l.length := List.length_pos_iff.2 hne
    refine Do.fb (by simp; omega) (Do.tb (decide_eq_true (by omega)) ?_)
    rw [W.i0] at fin ⊢
    refine Do.assoc ((least_spec (k := k) l hne (by omega) (by omega)).bind ?_)
    rintro _ ⟨p, x, q, e, rfl, hx⟩
    have hidx : mIdx (l.map ofI) (p.length : Int) = some (ofI x) := by
      rw [e, List.map_append, List.map_cons]
      have := mIdx_mid (p.map ofI) (q.map ofI) (ofI x)
      rwa [List.length_map] at this
    refine Do.assoc (Do.seq hidx ?_)
    have hcell : r.1 = (x.i : Int) := by
      rcases hr with ⟨hfn, _⟩ | ⟨c, hc, rfl, hm⟩
      · rw [hfn] at hfs; simp only [F.size] at hfs; omega
      · have hxl : x ∈ l := by rw [e]; simp
        obtain ⟨d, hd, ed⟩ := W.cell hxl
        have h1 := hm d hd
        rw [ed] at h1
        have h2 : it c ∈ l := W.p0.mem_iff.2 (List.mem_map_of_mem hc)
        rw [It.lt_total h1 (hx _ h2)]
    refine Do.fb (by rw [hcell]; simp [ofI]) ?_
    rw [← W.i0] at fin ⊢
    exact fin' fin
/-- what is looked at behind Min -/
theorem look_ok1 {k C : Nat} {w : thicketlaw11_world} {f g : F} {it : Nat → It} {l m : List It} (W : Wd C w.a_ w.root1 w.root0 w.has1 w.has0 w.next f g it l m) (hl : l.length < 1000) (hk : 300000 < k) :
    Do ((skew_All k w.a_ w.root1).bind fun t_6 => (thicketlaw11_cells k w.has1).bind fun t_7 => (thicketbook_Same_int k t_6.1 t_7).bind fun t_8 =>
      (bif !t_8 then some (true, WA w t_6.2) else (thicketlaw11_world_shape k (WA w t_6.2) 1).bind fun t_9 => some (!t_9.1, t_9.2))) fun r => ∃ a', r = (false, WA w a') ∧ Wd C a' w.root1 w.root0 w.has1 w.has0 w.next f g it l m := by
  have hfs := W.fs
  have hcells : ∀ c ∈ f.cells, it c ∈ l := fun c hc => W.p0.mem_iff.2 (List.mem_map_of_mem hc)
  rw [W.e0, W.i0]
  refine (all_spec (k := k) W.hp (by omega)).bind ?_
  rintro _ ⟨a1, rfl, H1⟩
  refine Do.seq (cells_spec (k := k) l (by omega) (by omega)) ?_
  have e9 : iSort (zl (l.map It.i)) = iSort (zl (f.cells.map fun c => (it c).i)) := by
    refine iSort_congr ?_
    have := (W.p0.map It.i).map (fun c : Nat => (c : Int))
    simpa [zl, Function.comp_def] using this
  rw [e9]
  have hsl : (iSort (zl (f.cells.map fun c => (it c).i))).length = l.length := by
    rw [(iSort_perm _).length_eq]; simp [zl, F.size_cells, hfs]
  refine Do.seq (same_spec (k := k) (iSort (zl (f.cells.map fun c => (it c).i))) (by omega) (by omega)) ?_
  refine Do.f rfl ?_
  refine (shape_ok1 (k := k) (w := WA w a1) l hl W.items W.hf hfs (fun ν hν => List.mem_append_left _ hν) hcells (by omega) W.i0 W.e0 H1).bind ?_
  rintro _ ⟨a2, n2, rfl, H2⟩
  exact ⟨_, rfl, a2, rfl, by rw [← W.e0, ← W.i0]; exact W.arena rfl H2⟩
theorem half_ok1 {k C : Nat} {w : thicketlaw11_world} {f g : F} {it : Nat → It} {l m : List It} {α : Type} {Q : α → Prop} {X : Bool × thicketlaw11_world → Option α} (W : Wd C w.a_ w.root1 w.root0 w.has1 w.has0 w.next f g it l m) (hl : l.length < 1000) (hk : 300000 < k)
    (K : ∀ (a' : arena_Arena) (sp mo : Int), Wd C a' w.root1 w.root0 w.has1 w.has0 w.next f g it l m → Do (X (false, thicketlaw11_world.mk a' w.root0 w.root1 w.has0 w.has1 w.next sp mo)) Q) (Y : thicketlaw11_world → Option α) :
    Do ((skew_Min k w.a_ w.root1).bind fun t_3 =>
    (thicketlaw11_world_cost k (WA w t_3.2) w.a_.m_.steps 1 (w.has1.length : Int)).bind fun t_4 =>
    (bif !t_4.1 then Y t_4.2
    else
      ((bif (w.has1.length : Int) == 0 then
        (bif t_3.1 != (-1) then
          some (true, thicketlaw11_world.mk t_4.2.a_ t_4.2.root0 t_4.2.root1 w.has0 w.has1 t_4.2.next t_4.2.spent t_4.2.most)
        else
          (bif t_4.2.root1 != (-1) then
            some (true, thicketlaw11_world.mk t_4.2.a_ t_4.2.root0 t_4.2.root1 w.has0 w.has1 t_4.2.next t_4.2.spent t_4.2.most)
          else
            (bif decide ((w.has1.length : Int) > 0) then
              (thicketlaw11_least k w.has1).bind fun t_5 =>
              (mIdx w.has1 t_5).bind fun x =>
              (bif t_3.1 != x.cell then
                some (true, thicketlaw11_world.mk t_4.2.a_ t_4.2.root0 t_4.2.root1 w.has0 w.has1 t_4.2.next t_4.2.spent t_4.2.most)
              else
                (skew_All k t_4.2.a_ t_4.2.root1).bind fun t_6 =>
                (thicketlaw11_cells k w.has1).bind fun t_7 =>
                (thicketbook_Same_int k t_6.1 t_7).bind fun t_8 =>
                (bif !t_8 then
                  some (true, thicketlaw11_world.mk t_6.2 t_4.2.root0 t_4.2.root1 w.has0 w.has1 t_4.2.next t_4.2.spent t_4.2.most)
                else
                  (thicketlaw11_world_shape k (thicketlaw11_world.mk t_6.2 t_4.2.root0 t_4.2.root1 w.has0 w.has1 t_4.2.next t_4.2.spent t_4.2.most) 1).bind fun t_9 =>
                  some (!t_9.1, t_9.2)))
            else
              (skew_All k t_4.2.a_ t_4.2.root1).bind fun t_10 =>
              (thicketlaw11_cells k w.has1).bind fun t_11 =>
              (thicketbook_Same_int k t_10.1 t_11).bind fun t_12 =>
              (bif !t_12 then
                some (true, thicketlaw11_world.mk t_10.2 t_4.2.root0 t_4.2.root1 w.has0 w.has1 t_4.2.next t_4.2.spent t_4.2.most)
              else
                (thicketlaw11_world_shape k (thicketlaw11_world.mk t_10.2 t_4.2.root0 t_4.2.root1 w.has0 w.has1 t_4.2.next t_4.2.spent t_4.2.most) 1).bind fun t_13 =>
                some (!t_13.1, t_13.2)))))
      else
        (bif decide ((w.has1.length : Int) > 0) then
          (thicketlaw11_least k w.has1).bind fun t_14 =>
          (mIdx w.has1 t_14).bind fun x1 =>
          (bif t_3.1 != x1.cell then
            some (true, thicketlaw11_world.mk t_4.2.a_ t_4.2.root0 t_4.2.root1 w.has0 w.has1 t_4.2.next t_4.2.spent t_4.2.most)
          else
            (skew_All k t_4.2.a_ t_4.2.root1).bind fun t_15 =>
            (thicketlaw11_cells k w.has1).bind fun t_16 =>
            (thicketbook_Same_int k t_15.1 t_16).bind fun t_17 =>
            (bif !t_17 then
              some (true, thicketlaw11_world.mk t_15.2 t_4.2.root0 t_4.2.root1 w.has0 w.has1 t_4.2.next t_4.2.spent t_4.2.most)
            else
              (thicketlaw11_world_shape k (thicketlaw11_world.mk t_15.2 t_4.2.root0 t_4.2.root1 w.has0 w.has1 t_4.2.next t_4.2.spent t_4.2.most) 1).bind fun t_18 =>
              some (!t_18.1, t_18.2)))
        else
          (skew_All k t_4.2.a_ t_4.2.root1).bind fun t_19 =>
          (thicketlaw11_cells k w.has1).bind fun t_20 =>
          (thicketbook_Same_int k t_19.1 t_20).bind fun t_21 =>
          (bif !t_21 then
            some (true, thicketlaw11_world.mk t_19.2 t_4.2.root0 t_4.2.root1 w.has0 w.has1 t_4.2.next t_4.2.spent t_4.2.most)
          else
            (thicketlaw11_world_shape k (thicketlaw11_world.mk t_19.2 t_4.2.root0 t_4.2.root1 w.has0 w.has1 t_4.2.next t_4.2.spent t_4.2.most) 1).bind fun t_22 =>
            some (!t_22.1, t_22.2))))).bind X)) Q := by
  have hfs := W.fs
  have hgs := W.gs
  have hs0 := W.hp.span
  have hlen := W.hf.len (R := 10) (by omega)
  have hmin := min_spec (k := k) W.hp W.hf (by omega)
  rw [← W.e0] at hmin
  have hhl : w.has1.length = l.length := by rw [W.i0, List.length_map]
  refine hmin.bind ?_
  rintro r ⟨a1, H1, hr⟩
  have hs := H1.span
  have hra : r.2 = a1 := by
    rcases hr with ⟨_, rfl⟩ | ⟨c, _, rfl, _⟩ <;> rfl
  have W1 : Wd C a1 w.root1 w.root0 w.has1 w.has0 w.next f g it l m := W.arena rfl H1
  rw [hhl]
  refine (cost_spec (k := k) (WA w r.2) w.a_.m_.steps 1 l.length (by omega) (by omega) hs0.1 (by rw [hra]; exact hs.2.1) (Or.inl (by rw [hra]; have := hs.2.2.1; simp only [bs] at this ⊢; omega)) (by rw [hra]; exact hs.2.2.2)).bind ?_
  rintro _ ⟨sp', mo', rfl⟩
  rw [hra]
  refine Do.f rfl ?_
  have fin := look_ok1 (k := k) (w := thicketlaw11_world.mk a1 w.root0 w.root1 w.has0 w.has1 w.next sp' mo') W1 hl hk
  have fin' : ∀ {o : Option (Bool × thicketlaw11_world)}, Do o (fun r => ∃ a', r = (false, WA (thicketlaw11_world.mk a1 w.root0 w.root1 w.has0 w.has1 w.next sp' mo') a') ∧ Wd C a' w.root1 w.root0 w.has1 w.has0 w.next f g it l m) → Do (o.bind X) Q := by
    intro o h
    refine h.bind ?_
    rintro _ ⟨a', rfl, W'⟩
    exact K a' sp' mo' W'
  by_cases hne : l = []
  · subst hne
    have hfn : f = .nil := by
      cases f with
      | nil => rfl
      | cons => simp [F.size] at hfs
    have hr1 : r.1 = -1 := by
      rcases hr with ⟨_, rfl⟩ | ⟨c, hc, _⟩
      · rfl
      · rw [hfn] at hc; simp [F.cells] at hc
    have hroot : w.root1 = -1 := by rw [W.e0, hfn]; rfl
    refine Do.tb rfl (Do.fb (by rw [hr1]; rfl) (Do.fb (by simp only [hroot]; rfl) (Do.fb rfl ?_)))
    exact fin' fin
  · have hlp : 0 < l.length := List.length_pos_iff.2 hne
    refine Do.fb (by simp; omega) (Do.tb (decide_eq_true (by omega)) ?_)
    rw [W.i0] at fin ⊢
    refine Do.assoc ((least_spec (k := k) l hne (by omega) (by omega)).bind ?_)
    rintro _ ⟨p, x, q, e, rfl, hx⟩
    have hidx : mIdx (l.map ofI) (p.length : Int) = some (ofI x) := by
      rw [e, List.map_append, List.map_cons]
      have := mIdx_mid (p.map ofI) (q.map ofI) (ofI x)
      rwa [List.length_map] at this
    refine Do.assoc (Do.seq hidx ?_)
    have hcell : r.1 = (x.i : Int) := by
      rcases hr with ⟨hfn, _⟩ | ⟨c, hc, rfl, hm⟩
      · rw [hfn] at hfs; simp only [F.size] at hfs; omega
      · have hxl : x ∈ l := by rw [e]; simp
        obtain ⟨d, hd, ed⟩ := W.cell hxl
        have h1 := hm d hd
        rw [ed] at h1
        have h2 : it c ∈ l := W.p0.mem_iff.2 (List.mem_map_of_mem hc)
        rw [It.lt_total h1 (hx _ h2)]
    refine Do.fb (by rw [hcell]; simp [ofI]) ?_
    rw [← W.i0] at fin ⊢
    exact fin' fin
theorem right_ok {k C : Nat} {w : thicketlaw11_world} {f g : F} {it : Nat → It} {l m : List It} (W : Wd C w.a_ w.root0 w.root1 w.has0 w.has1 w.next f g it l m) (hl : l.length < 1000) (hm : m.length < 1000) (hk : 300000 < k) :
    Do (thicketlaw11_world_right k w) fun r => r.1 = true ∧ r.2.next = w.next ∧ Wd C r.2.a_ r.2.root0 r.2.root1 r.2.has0 r.2.has1 r.2.next f g it l m := by
  have hfs := W.fs
  have hgs := W.gs
  unfold thicketlaw11_world_right
  refine Do.seq (Ar.lenIs W.hp) ?_
  have hlen : (((lay it (nd f (-1) ++ nd g (-1)) ++ []).length : Nat) : Int) = ((2 * (l.length + m.length) : Nat) : Int) := by
    rw [List.append_nil, lay_length, List.length_append, nd_size, nd_size]; omega
  have hw : w64 (2 * (w64 ((w.has0.length : Int) + (w.has1.length : Int)))) = ((2 * (l.length + m.length) : Nat) : Int) := by
    rw [W.i0, W.i1, List.length_map, List.length_map, w64_id (x := (l.length : Int) + (m.length : Int)) (by omega) (by omega), w64_id (by omega) (by omega)]; omega
  rw [hlen, hw]
  refine Do.f (by simp) ?_
  refine Do.seq rfl (Do.seq rfl ?_)
  refine half_ok0 (k := k) W hl hk (fun a1 sp mo W1 => ?_) (fun w => some (false, w))
  refine Do.f rfl ?_
  refine Do.seq rfl (Do.seq rfl ?_)
  refine half_ok1 (k := k) (w := thicketlaw11_world.mk a1 w.root0 w.root1 w.has0 w.has1 w.next sp mo) W1.swap hm hk (fun a2 sp mo W2 => ?_) (fun w => some (false, w))
  refine Do.f rfl ?_
  exact ⟨_, rfl, rfl, rfl, W2.swap⟩
end Go.Proofs.YtmidmkinclmbdaaGreat
