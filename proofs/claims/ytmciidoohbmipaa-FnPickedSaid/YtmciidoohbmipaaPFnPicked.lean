/- FnPicked: behind a loss of power each line is what it was, what was sent of it or what was seen. No condition. -/
import Derived.Test.YtmciidoohbmipaaPDevDraw
import Derived.Test.YtmciidoohbmipaaPDevSeen
namespace Go.Proofs.Ytmciidoohbmipaa.Abs.Pu
open Go Go.RowKit
set_option linter.unusedVariables false
set_option linter.unusedSectionVars false
set_option linter.unusedSimpArgs false
theorem sameDev_none (s : ByteArray) : Ev (fun k => laws_sameDev.f k s ([] : List Line) s ([] : List Line)) true := by
  unfold laws_sameDev.f
  refine Ev.pos rfl (Ev.pos rfl ?_)
  refine Ev.step (fun k => by rw [laws_sameDev.p14]) ?_
  exact Ev.neg (by simp) (Ev.eq rfl)
theorem pick_nil : ∀ (l : List Line) (s : ByteArray), pickF l [] s = s
  | [], _ => rfl
  | _ :: _, _ => rfl
theorem FnPicked : laws_FnPicked.Pure := by
  intro code ok
  refine Ev.rounds ?_
  unfold laws_FnPicked.f laws_big.f
  refine Ev.bindo rfl (Ev.cases (fun _ => Ev.eq rfl) (fun hbig => ?_))
  have hlen : code.length ≤ 1048576 := by
    have : ¬ ((code.length : Int) > 1048576) := fun h => hbig (decide_eq_true h)
    omega
  have hb : isBytes code := isBytes_of ok.2
  obtain ⟨d, q, ed, hd1, hd2, hq⟩ := device_ev (Rd.start hb (by omega))
  obtain ⟨ks, q2, ek, hk, hq2⟩ := keep_ev hq d.2.length (by omega)
  have eD : Ev (fun k => spec_DrawCrash.f k code) (d.1, d.2, ks) := by
    unfold spec_DrawCrash.f spec_l1Open.f
    exact Ev.bindo rfl (Ev.bind ed (Ev.bind ek (Ev.eq rfl)))
  have e1 := impl_Crash_ev d ks (by omega) (by omega) (by omega)
  have e2 := spec_Crash_ev d ks (by omega) (by omega) (by omega)
  have e3 := spec_DeviceOk_ev d (by omega) (by omega)
  refine Ev.bind eD (Ev.bind e1 (Ev.bind e2 (Ev.bind (sameDev_none _) (Ev.pos rfl (Ev.bind e3 ?_)))))
  refine Ev.step (fun k => by rw [laws_FnPicked.p17]) ?_
  by_cases h0 : devB d = true
  rotate_left
  · exact Ev.pos (by rw [Bool.eq_false_iff.2 h0]; rfl) (Ev.bind e2 (Ev.bind (sameDev_none _) (Ev.eq rfl)))
  refine Ev.neg (by rw [h0]; simp) ?_
  obtain ⟨n, hd⟩ := (devB_iff d).1 h0
  have hn := hd.hi
  have hz := hd.size
  have hC : crashR d ks = pickF d.2 ks d.1 := by unfold crashR; rw [if_pos h0]
  have hCz : (pickF d.2 ks d.1).size = 64 * n := pickF_size _ _ hd.lines hd.size
  simp only [hC]
  generalize hE : pickF d.2 ks d.1 = E at hCz
  have hat : ∀ j (hj : j < d.2.length), lineB E (d.2[j].1.toNat) = choice d.2[j] (ks.getD j 0) (lineB d.1 d.2[j].1.toNat) := fun j hj => by
    rw [← hE]; exact pick_at d.2 ks j hj hd.lines hd.sorted hd.size
  have last : Ev (fun k => (impl_Crash.f k d.1 d.2 ([] : List Int)).bind fun t7 => (if t7.toList = d.1.toList then ((impl_Crash.f k d.1 d.2 (allTwo d.2)).bind fun t8 => ((impl_Seen.f k d.1 d.2).bind fun t9 => (if t8.toList = t9.toList then (some (decide ((E.size : Int) = (d.1.size : Int)))) else (some false)))) else (some false))) true := by
    have f1 := impl_Crash_ev d [] (by omega) (by omega) (by simp)
    have f2 := impl_Crash_ev d (allTwo d.2) (by omega) (by omega) (by simp [allTwo]; omega)
    have f3 := impl_Seen_ev d (by omega) (by omega)
    have g1 : crashR d [] = d.1 := by unfold crashR; rw [if_pos h0, pick_nil]
    have g2 : crashR d (allTwo d.2) = seenB d := by unfold crashR; rw [if_pos h0]; rfl
    have g3 : seenR d = seenB d := by unfold seenR; rw [if_pos h0]
    rw [g1] at f1
    rw [g2] at f2
    rw [g3] at f3
    exact Ev.bind f1 (Ev.pos rfl (Ev.bind f2 (Ev.bind f3 (Ev.pos rfl (Ev.eq (decide_eq_true (by omega)))))))
  have key : ∀ i, i ≤ d.2.length → Ev (fun k => laws_FnPicked.p28 k d.1 d.2 E (List.replicate i 2) (i : Int)) true := by
    refine down ?_ ?_
    · refine Ev.step (fun k => by rw [laws_FnPicked.p28]) ?_
      exact Ev.neg (by omega) last
    · intro i hi ih
      have hg : rdOf ln0 d.2 (i : Int) = d.2[i] := rdg hi
      have hx := hd.lines _ (List.getElem_mem hi)
      have hlo := hx.lo
      have hhi := hx.hi
      have hL := hat i hi
      obtain ⟨w1, w2⟩ : wrap64 (64 * (d.2[i]).1) = ((64 * (d.2[i]).1.toNat : Nat) : Int) ∧ wrap64 (wrap64 (64 * (d.2[i]).1) + 64) = ((64 * (d.2[i]).1.toNat + 64 : Nat) : Int) := by
        have h1 := hx.w (by omega)
        exact ⟨h1, by rw [h1, w64 (by omega) (by omega)]; omega⟩
      have nx : Ev (fun k => laws_FnPicked.p28 k d.1 d.2 E (List.replicate i 2 ++ [2]) ((i + 1 : Nat) : Int)) true := by
        rw [← List.replicate_succ']
        exact ih
      refine Ev.step (fun k => by rw [laws_FnPicked.p28]) ?_
      rw [w64s (i := i) (by omega), hg, w2, w1, Int.toNat_natCast, Int.toNat_natCast]
      show Ev (fun k => if (i : Int) < (d.2.length : Int) then _ else _) _
      have hLe : E.extract (64 * (d.2[i]).1.toNat) (64 * (d.2[i]).1.toNat + 64) = choice d.2[i] (ks.getD i 0) (d.1.extract (64 * (d.2[i]).1.toNat) (64 * (d.2[i]).1.toNat + 64)) := hL
      rw [hLe]
      refine Ev.pos (by omega) (Ev.pos (by rw [List.length_replicate]; omega) (Ev.pos (by omega) (Ev.pos (by omega) (Ev.pos (by omega) (Ev.pos (by omega) (Ev.pos (by omega) (Ev.pos (by omega) (Ev.pos (by omega) (Ev.pos (by omega) ?_)))))))))
      generalize d.1.extract (64 * (d.2[i]).1.toNat) (64 * (d.2[i]).1.toNat + 64) = old
      refine Ev.cases (fun _ => nx) (fun n1 => ?_)
      refine Ev.pos (by omega) (Ev.pos (by omega) (Ev.pos (by omega) (Ev.pos (by omega) ?_)))
      refine Ev.cases (fun _ => nx) (fun n2 => ?_)
      refine Ev.pos (by omega) (Ev.pos (by omega) (Ev.pos (toList_inj.2 ?_) nx))
      unfold choice at n1 n2 ⊢
      split
      · rename_i k2
        rw [if_pos k2] at n1
        exact absurd rfl n1
      · rename_i k2
        rw [if_neg k2] at n2
        split
        · rename_i k1
          rw [if_pos k1] at n2
          split
          · rename_i e
            rw [if_pos e] at n2
            exact absurd rfl n2
          · rfl
        · rename_i k1
          rw [if_neg k1] at n2
          exact absurd rfl n2
  exact key 0 (Nat.zero_le _)
end Go.Proofs.Ytmciidoohbmipaa.Abs.Pu
