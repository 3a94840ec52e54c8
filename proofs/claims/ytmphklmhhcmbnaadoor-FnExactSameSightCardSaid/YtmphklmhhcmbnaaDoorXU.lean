/- Merged: Xu Xv Xz Xma Xmw Xmz. -/
import Derived.Test.YtmphklmhhcmbnaaDoorXt
import Derived.Test.YtmphklmhhcmbnaaDoorXB
/- The rules, at this program and its types. -/
namespace Go.Proofs.YtmphklmhhcmbnaaDoorW.Ax
open Go
noncomputable section
abbrev sr := @s_run Go.Proofs.Tryd.prog Tys tysOk
abbrev crr := @c_rr Go.Proofs.Tryd.prog Tys tysOk
abbrev cr1 := @c_r1 Go.Proofs.Tryd.prog Tys tysOk
abbrev cds := @c_ds Go.Proofs.Tryd.prog
abbrev ent := @enter Go.Proofs.Tryd.prog Tys tysOk
abbrev fr := @fin Tys
abbrev frn := @fin_n Tys
abbrev oidx := @o_idx Go.Proofs.Tryd.prog Tys tysOk
abbrev old := @o_ld Go.Proofs.Tryd.prog Tys tysOk
abbrev oldS := @o_ldS Go.Proofs.Tryd.prog Tys tysOk
abbrev ost := @o_st Go.Proofs.Tryd.prog Tys tysOk
abbrev oallocS := @o_allocS Go.Proofs.Tryd.prog Tys tysOk
abbrev omake := @o_make Go.Proofs.Tryd.prog Tys tysOk
abbrev obslice := @o_bslice Go.Proofs.Tryd.prog Tys tysOk
abbrev oslice := @o_slice Go.Proofs.Tryd.prog Tys tysOk
abbrev oappend := @o_append Go.Proofs.Tryd.prog Tys tysOk
abbrev oclear := @o_clear Go.Proofs.Tryd.prog Tys tysOk
abbrev oindex := @o_index Go.Proofs.Tryd.prog Tys tysOk
abbrev oconv := @o_conv Go.Proofs.Tryd.prog Tys tysOk
abbrev oeq := @o_eq Go.Proofs.Tryd.prog Tys tysOk
abbrev omkI := @o_mkI Go.Proofs.Tryd.prog Tys tysOk
abbrev ostI := @o_stI Go.Proofs.Tryd.prog Tys tysOk
abbrev ostF := @o_stF Go.Proofs.Tryd.prog Tys tysOk
abbrev oappF := @o_appF Go.Proofs.Tryd.prog Tys tysOk
abbrev ohalf := @o_half Go.Proofs.Tryd.prog
abbrev sra := @s_all Go.Proofs.Tryd.prog Tys tysOk
abbrev oneB := @o_neB Go.Proofs.Tryd.prog Tys tysOk
abbrev cdj := @c_dj Go.Proofs.Tryd.prog
abbrev oclrF := @o_clrF Go.Proofs.Tryd.prog Tys tysOk
abbrev oalloc1 := @o_alloc1 Go.Proofs.Tryd.prog Tys tysOk
abbrev ost1 := @o_st1 Go.Proofs.Tryd.prog Tys tysOk
abbrev cd1 := @c_d1 Go.Proofs.Tryd.prog
abbrev oappB := @o_appB Go.Proofs.Tryd.prog Tys tysOk
abbrev obstr := @o_bstr Go.Proofs.Tryd.prog Tys tysOk
abbrev oone := @o_one Go.Proofs.Tryd.prog Tys tysOk
end
end Go.Proofs.YtmphklmhhcmbnaaDoorW.Ax

/- More rules, at this program and its types. -/
namespace Go.Proofs.YtmphklmhhcmbnaaDoorW.Ax
open Go
noncomputable section
abbrev oints := @o_ints Go.Proofs.Tryd.prog Tys tysOk
abbrev oblk := @o_blk Go.Proofs.Tryd.prog Tys tysOk
abbrev cdt := @c_dt Go.Proofs.Tryd.prog
end
end Go.Proofs.YtmphklmhhcmbnaaDoorW.Ax

/- Still more rules, at this program and its types. -/
namespace Go.Proofs.YtmphklmhhcmbnaaDoorW.Ax
open Go
noncomputable section
abbrev cd3 := @c_d3 Go.Proofs.Tryd.prog
abbrev prun := @p_run Go.Proofs.Tryd.prog Tys tysOk
abbrev cdM := @c_dM Go.Proofs.Tryd.prog
abbrev xidx := @x_idx Go.Proofs.Tryd.prog Tys tysOk
end
end Go.Proofs.YtmphklmhhcmbnaaDoorW.Ax

/- Rules for maps and markers, at this program and its types. -/
namespace Go.Proofs.YtmphklmhhcmbnaaDoorW.Ax
open Go
noncomputable section
abbrev omget := @o_mget Go.Proofs.Tryd.prog Tys tysOk
abbrev omput := @o_mput Go.Proofs.Tryd.prog Tys tysOk
abbrev oappT := @o_appT Go.Proofs.Tryd.prog Tys tysOk
abbrev oappG := @o_appG Go.Proofs.Tryd.prog Tys tysOk
abbrev cdt1 := @c_dt1 Go.Proofs.Tryd.prog
end
end Go.Proofs.YtmphklmhhcmbnaaDoorW.Ax

/- Still more rules, at this program and its types. -/
namespace Go.Proofs.YtmphklmhhcmbnaaDoorW.Ax
open Go
noncomputable section
abbrev cdv := @c_dv Go.Proofs.Tryd.prog
abbrev oallocP := @o_allocP Go.Proofs.Tryd.prog Tys tysOk
abbrev oboxP := @o_boxP Go.Proofs.Tryd.prog
abbrev ostP := @o_stP Go.Proofs.Tryd.prog Tys tysOk
abbrev cdv1 := @c_dv1 Go.Proofs.Tryd.prog
end
end Go.Proofs.YtmphklmhhcmbnaaDoorW.Ax

/- Still more rules, at this program and its types. -/
namespace Go.Proofs.YtmphklmhhcmbnaaDoorW.Ax
open Go
noncomputable section
abbrev ocapN := @o_capN Go.Proofs.Tryd.prog Tys tysOk
abbrev oappZ := @o_appZ Go.Proofs.Tryd.prog Tys tysOk
abbrev oslE := @o_sliceE Go.Proofs.Tryd.prog Tys tysOk
abbrev obsl0 := @o_bsl0 Go.Proofs.Tryd.prog Tys tysOk
abbrev oappE := @o_appE Go.Proofs.Tryd.prog Tys tysOk
abbrev orecut := @o_recut Go.Proofs.Tryd.prog Tys tysOk
end
end Go.Proofs.YtmphklmhhcmbnaaDoorW.Ax
