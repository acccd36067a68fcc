/- The law UsefulOnce. -/
import Derived.Test.YtkhmghobnocakaaVUsefulOnce
import Derived.Test.YtkhmghobnocakaaCUseful2
import Derived.Test.YtkhmghobnocakaaCOnceLaw
import Derived.Test.YtkhmghobnocakaaCMake
import Derived.Test.YtkhmghobnocakaaCWorks
set_option linter.all false
namespace Go.Proofs.Ytkhmghobnocakaa
open Go Go.Proofs.Ytkhmghobnocakaa.GH

theorem UsefulOnce_spec {L : GHeap} {s0 : Sl} {xs : List Int} (h0 : IsSl rI L s0 xs) : ACalls PP parlkeep2_UsefulOnce.id [.slice s0.a s0.n s0.c] L fun v L' => v = .bool true ∧ Le L L' := by
  apply parlkeep2_UsefulOnce.go
  refine (Grammar_spec h0).mono ?_
  rintro v L1 ⟨g, sg, rfl, hg, hle1, hsg⟩
  have hv := hg.valid
  refine ⟨_, _, _, sg, rfl, (Trim_spec hv hsg).mono ?_⟩
  rintro v L2 ⟨hle2, lens, hsp, hcase⟩
  have l02 := hle1.trans hle2
  rcases hcase with ⟨hneg, rfl⟩ | ⟨hst, inn, so, sn, sr, hrs, rfl, k1, k2, k3⟩
  · refine ⟨_, _, _, ⟨none, 0, 0⟩, ⟨none, 0, 0⟩, ⟨none, 0, 0⟩, _, rfl, works_spec.mono ?_⟩
    rintro v L3 ⟨rfl, hle3⟩
    exact ⟨true, rfl, bcF rfl (bcT rfl ⟨rfl, l02.trans hle3⟩)⟩
  · have H : Trims g lens inn := ⟨hv, hsp, hst, hrs⟩
    have hvh := H.trimmed
    refine ⟨_, _, _, so, sn, sr, _, rfl, works_spec.mono ?_⟩
    rintro v L3 ⟨rfl, hle3⟩
    refine ⟨true, rfl, bcF rfl (bcF rfl ?_)⟩
    have l03 := l02.trans hle3
    generalize hh : trimG g (lens.map fun k => decide (k ≥ 0)) inn = h at *
    have k1' := k1.mono hle3.toLeM
    refine (Ends_spec hvh k1').mono ?_
    rintro v L4 ⟨hle4, se, out, rfl, e1, e2⟩
    refine ⟨se, _, rfl, (Reached_spec hvh (k1'.mono hle4.toLeM)).mono ?_⟩
    rintro v L5 ⟨hle5, sc, rch, rfl, r1, r2⟩
    have l35 := hle4.trans hle5
    refine ⟨sc, _, rfl, (Trim_spec hvh (k1'.mono l35.toLeM)).mono ?_⟩
    rintro v L6 ⟨hle6, lens', hsp', hcase'⟩
    have hends : ∀ {out : List Int}, LenSpec h out → ∀ k : Int, 0 ≤ k → k < h.nons → 0 ≤ atI out k := fun {out} ho k a b => by
      subst hh; exact H.ends2 ho a b
    have hrch : ∀ k : Int, 0 ≤ k → k < h.nons → Rch h (fun _ => true) k := fun k a b => by
      subst hh; exact H.reached2 a b
    have hst' := hends hsp' h.start hvh.start.1 hvh.start.2
    rcases hcase' with ⟨hneg, _⟩ | ⟨_, inn', so', sn', sr', hrs', rfl, m1, m2, m3⟩
    · omega
    obtain ⟨q1, q2, q3, q4⟩ := trim_same hvh hsp' hrs' (hends hsp') hrch
    rw [q1] at m1 ⊢
    refine ⟨_, _, _, so', sn', sr', _, rfl, bcT rfl (bcT rfl (bcT rfl ?_))⟩
    have hnn := hvh.nons
    have hol := e2.len
    refine (allTrue_ro (e1.mono (hle5.trans hle6).toLeM) (by rw [List.length_map]; omega) fun n hn => ?_).use ⟨_, rfl, bcT rfl ?_⟩
    · rw [List.length_map] at hn
      have := (getE (lens := out) (n := (n : Int)) (by omega)).2 (hends e2 n (by omega) (by omega))
      rwa [Int.toNat_natCast] at this
    have hrl := r2.len
    refine (allTrue_ro (r1.mono hle6.toLeM) (by omega) fun n hn => ?_).use ⟨_, rfl, bcT rfl ?_⟩
    · have := (r2.iff_ (n : Int) (by omega) (by omega)).2 (hrch n (by omega) (by omega))
      rwa [Int.toNat_natCast] at this
    have hmany := hvh.many
    have l36 := l35.trans hle6
    refine (gSame_ro (a := h) (b := h) m1 (k1'.mono l36.toLeM) (by omega) fun r hr => by have := (hvh.ok r hr).2; omega).use ⟨_, rfl, bcT (by simp) ?_⟩
    refine bcT (by rw [m2.n, beq_iff_eq]; exact q2) ⟨?_, l03.trans l36⟩
    rw [m3.n, q3, (k1'.n : so.n = _)]
    simp
end Go.Proofs.Ytkhmghobnocakaa
